/-
  PlainAP: FnSequences.
-/
import Derived.Test.YtphbclogflflmaaPlainAQ
import Derived.Test.YtphbclogflflmaaPlainV
import Derived.Test.YtphbclogflflmaaPlainL
import Derived.Test.YtphbclogflflmaaPlainAH
import Derived.Test.YtphbclogflflmaaPlainAI
import Derived.Test.YtphbclogflflmaaPlainN
import Derived.Test.YtphbclogflflmaaPlainAK
set_option linter.unusedVariables false
set_option linter.unusedSimpArgs false
namespace Go.Proofs.Ytphbclogflflmaa
open Go Ev

/-! ### The shortest part -/
/-- A shortest part of sum 0. -/
structure Least (g l y : List Nat) : Prop where
  sub : y.Sublist l
  some : y ≠ []
  zero : totN g y = 0
  least : ∀ s, s.Sublist l → s ≠ [] → totN g s = 0 → y.length ≤ s.length
theorem Least.min {g l y : List Nat} (h : Least g l y) : ∀ s, s.Sublist y → s ≠ [] → totN g s = 0 → s.length = y.length := fun s h1 h2 h3 => by
  have := h.least s (h1.trans h.sub) h2 h3
  have := h1.length_le
  omega
theorem ShortestZero_more (G L : List Int) (h : G.length ≤ lim) (hL : L.length ≤ lim) :
    (isSeq G L = false ∧ f_s_ShortestZero (ints G) (ints L) = some ([], false) ∧ f_i_ShortestZero (ints G) (ints L) = some ([], false)) ∨
    ∃ g l, G = natsI g ∧ L = natsI l ∧ VS g l ∧ isSeq G L = true ∧
      (((∀ s, s.Sublist l → s ≠ [] → totN g s ≠ 0) ∧ f_s_ShortestZero (ints G) (ints L) = some ([], false) ∧ f_i_ShortestZero (ints G) (ints L) = some ([], false)) ∨
       ∃ y, Least g l y ∧ f_s_ShortestZero (ints G) (ints L) = some (ints (natsI y), true) ∧ f_i_ShortestZero (ints G) (ints L) = some (ints (natsI y), true)) := by
  cases hs : isSeq G L with
  | false =>
    refine .inl ⟨rfl, ?_, ?_⟩
    · have q : loopL (f_s_ShortestZero_r0 (ints L) (ints G)) ([], 1) = some (.one []) := loopL_one (by
        simp only [f_s_ShortestZero_r0, f_s_ShortestZero_k0, ints_length, neg_dec, s_IsSequence_eq G L h hL, hs, bo_some, br_false]
        cases decide (1 < shl64 1 (L.length : Int)) == true <;> rfl)
      simp only [f_s_ShortestZero, f_s_ShortestZero_k, q, bl1_one]
      rfl
    · have q : loopL (f_i_ShortestZero_r0 (ints L) (ints G)) 1 = some (.one ()) := loopL_one (by
        simp only [f_i_ShortestZero_r0, f_i_ShortestZero_k0, ints_length, i_IsSequence_eq G L h hL, hs, bo_some, br_false]
        cases decide (1 ≤ (L.length : Int)) == true <;> rfl)
      simp only [f_i_ShortestZero, f_i_ShortestZero_k, q, bl_one]
  | true =>
    obtain ⟨g, l, rfl, rfl, v⟩ := nat_of_isSeq hs
    refine .inr ⟨g, l, rfl, rfl, v, rfl, ?_⟩
    obtain ⟨m, hm⟩ : ∃ m, 2 ^ l.length = m + 1 := ⟨2 ^ l.length - 1, by have := Nat.two_pow_pos l.length; omega⟩
    have hlen := v.len
    have e1 := s_short_eq v hs hm
    have e2 := i_short_eq v hs hm
    have e3 : f_s_ShortestZero (ints (natsI g)) (ints (natsI l)) = some (ints (natsI (bestN g l m)), decide (((bestN g l m).length : Int) > 0)) := by
      simp only [f_s_ShortestZero, f_s_ShortestZero_k, e1, bl1_one, ints_length, natsI_length]
    have hm12 := code_lt hlen (show m < 2 ^ l.length by omega)
    have code : ∀ s, s.Sublist l → s ≠ [] → totN g s = 0 → ∃ j, j < m ∧ zAt g l j = true ∧ s.length = popN (j + 1) := fun s h1 h2 h3 => by
      obtain ⟨c, hc, he⟩ := sub_code l s h1
      have hc0 : c ≠ 0 := by
        intro e
        subst e
        apply h2
        rw [← he]
        simp [subN]
      obtain ⟨j, rfl⟩ : ∃ j, c = j + 1 := ⟨c - 1, by omega⟩
      refine ⟨j, by omega, ?_, ?_⟩
      · unfold zAt
        rw [he]
        exact decide_eq_true h3
      · rw [← he]
        exact subN_pop l hc (by omega)
    rcases best_spec g l hlen m (by omega) with ⟨h1, h2⟩ | ⟨i, h1, h2, h3, h4, h5⟩
    · have hnone : (List.range l.length).find? (fun i => (codeOf g l (i + 1) m).isSome) = none := by
        rw [List.find?_eq_none]
        intro k _ hk
        unfold codeOf at hk
        rw [List.find?_isSome] at hk
        obtain ⟨j, hj, hg⟩ := hk
        have := ((goodZ_iff _ _ _ _).1 hg).2
        rw [h1 j (List.mem_range.1 hj)] at this
        cases this
      rw [hnone] at e2
      refine .inl ⟨fun s s1 s2 s3 => ?_, by rw [e3, h2]; rfl, e2⟩
      obtain ⟨j, hj, hz, _⟩ := code s s1 s2 s3
      rw [h1 j hj] at hz
      cases hz
    · have hp : ∀ j, j < m → (subN l (j + 1) l.length).length = popN (j + 1) := fun j hj => subN_pop l (by omega) (by omega)
      have hpi : popN (i + 1) ≠ 0 := pop_pos (by omega) (by omega)
      have hle : popN (i + 1) ≤ l.length := by rw [← hp i h1]; exact subN_length _ _ _
      have hcode : codeOf g l (popN (i + 1)) m = some i := by
        unfold codeOf
        rw [List.find?_range_eq_some]
        refine ⟨(goodZ_iff _ _ _ _).2 ⟨rfl, h4⟩, List.mem_range.2 h1, fun j hj => ?_⟩
        cases hg : goodZ g l (popN (i + 1)) (j + 1) with
        | false => rfl
        | true =>
          have := (goodZ_iff _ _ _ _).1 hg
          exact absurd ⟨this.2, this.1⟩ (h5 j hj)
      have hfind : (List.range l.length).find? (fun i => (codeOf g l (i + 1) m).isSome) = some (popN (i + 1) - 1) := by
        rw [List.find?_range_eq_some]
        have e : popN (i + 1) - 1 + 1 = popN (i + 1) := by omega
        refine ⟨by rw [e, hcode]; rfl, List.mem_range.2 (by omega), fun k hk => ?_⟩
        cases hg : (codeOf g l (k + 1) m).isSome with
        | false => rfl
        | true =>
          unfold codeOf at hg
          rw [List.find?_isSome] at hg
          obtain ⟨j, hj, hg⟩ := hg
          have := (goodZ_iff _ _ _ _).1 hg
          have := h3 j (List.mem_range.1 hj) this.2
          omega
      rw [hfind] at e2
      simp only [show popN (i + 1) - 1 + 1 = popN (i + 1) by omega, hcode, Option.getD_some] at e2
      refine .inr ⟨subN l (i + 1) l.length, ⟨subN_sub l _, ?_, of_decide_eq_true h4, fun s s1 s2 s3 => ?_⟩, ?_, e2⟩
      · intro e
        have := hp i h1
        rw [e] at this
        exact hpi this.symm
      · obtain ⟨j, hj, hz, he⟩ := code s s1 s2 s3
        rw [he, hp i h1]
        exact h3 j hj hz
      · rw [e3, h2]
        have : decide (((subN l (i + 1) l.length).length : Int) > 0) = true := decide_eq_true (by rw [hp i h1]; omega)
        rw [this]
theorem i_IsAtom_least {g l : List Nat} (v : VS g l) (hs : isSeq (natsI g) (natsI l) = true) (h0 : l ≠ []) (hz : totN g l = 0) (hmin : ∀ s, s.Sublist l → s ≠ [] → totN g s = 0 → s.length = l.length) :
    f_i_IsAtom (ints (natsI g)) (ints (natsI l)) = some true := by
  have hlen := v.len
  have hl1 : 1 ≤ l.length := List.length_pos_iff.2 h0
  have d0 : ((l.length : Int) == 0) = false := beq_eq_false_iff_ne.2 (by omega)
  obtain ⟨m, hm⟩ : ∃ m, 2 ^ l.length = m + 2 := ⟨2 ^ l.length - 2, by
    have : 2 ^ 1 ≤ 2 ^ l.length := Nat.pow_le_pow_right (by decide) (by omega)
    omega⟩
  have e9 : w64 (shl64 1 (l.length : Int) - 1) = ((m + 1 : Nat) : Int) := by
    rw [shl1_nat (by omega), hm, show ((m + 2 : Nat) : Int) - 1 = ((m + 1 : Nat) : Int) by omega]
    exact w64_cast (by have := code_lt hlen (show m + 1 < 2 ^ l.length by omega); omega)
  have key : loopL (f_i_IsAtom_r0 (ints (natsI l)) (ints (natsI g))) ((0 + 1 : Nat) : Int) = if (List.range m).any (fun j => decide (totN g (subN l (j + 1) l.length) = 0)) then some (.two ()) else some (.one ()) := by
    refine loop_any (rd := f_i_IsAtom_r0 (ints (natsI l)) (ints (natsI g))) (fun j => ((j + 1 : Nat) : Int)) m (fun j => decide (totN g (subN l (j + 1) l.length) = 0)) (fun j hj => ?_) ?_
    · have hc : j + 1 < 2 ^ l.length := by omega
      have hc2 := code_lt hlen hc
      have hp := i_part_eq (L := natsI l) (c := j + 1) (by rw [natsI_length]; exact hlen) (by omega)
      rw [natsI_length, subN_natsI] at hp
      have hj' : decide (((j + 1 : Nat) : Int) < ((m + 1 : Nat) : Int)) = true := decide_eq_true (by omega)
      simp only [f_i_IsAtom_r0, f_i_IsAtom_k0, ints_length, natsI_length, neg_dec, br_false, e9, hj', br_true, hp, bo_some, i_total_eq v.grp (subN_each v (j + 1)) (Nat.le_trans (subN_length _ _ _) v.lim), zero_dec, w64_nat (by omega : j + 1 < 9223372036854775807)]
      cases decide (totN g (subN l (j + 1) l.length) = 0) <;> rfl
    · simp only [f_i_IsAtom_r0, f_i_IsAtom_k0, ints_length, natsI_length, neg_dec, br_false, e9, lt_dec_self]
  have hB : lackB g l = (List.range m).any (fun j => decide (totN g (subN l (j + 1) l.length) = 0)) := by
    unfold lackB
    rw [hm, Nat.add_sub_cancel]
  have hA : lackA g l = false := by
    cases ha : lackA g l with
    | false => rfl
    | true =>
      obtain ⟨s, s1, s2, s3, s4⟩ := (lack_iff v.grp v.each).1 ha
      have := hmin s s1 s2 s4
      omega
  rw [← hB, ← lack_same v, hA, show ((0 + 1 : Nat) : Int) = 1 from rfl] at key
  have key' : loopL (f_i_IsAtom_r0 (ints (natsI l)) (ints (natsI g))) 1 = some (.one ()) := key
  simp only [f_i_IsAtom, f_i_IsAtom_k, i_IsZeroSum_eq v hs, decide_eq_true hz, bo_some, Bool.not_true, BEq.rfl, br_true, ints_length, natsI_length, d0, br_false, key', bl_one]
/-! ### Not longer than the order -/
theorem subs_mono (g : List Nat) : ∀ (m l : List Nat), (subsN g l).testBit 0 = true → (subsN g (l ++ m)).testBit 0 = true
  | [], l, h => by rwa [List.append_nil]
  | x :: m, l, h => by
    have := subs_mono g m (l ++ [x]) (by rw [subsN_snoc]; unfold subF; rw [Nat.testBit_or, Nat.testBit_or, h]; rfl)
    rwa [List.append_assoc] at this
theorem zf_mem {g : List Nat} : ∀ (r : List Nat) (n : Nat) (l : List Nat) (a : Nat), AscF a r → (∀ x ∈ r, x < ordN g) → r.length < n → (subsN g (l ++ r)).testBit 0 = false → l ++ r ∈ zfT g n l (subsN g l) a
  | r, 0, l, a, _, _, h, _ => by omega
  | [], n + 1, l, a, _, _, _, _ => by
    rw [List.append_nil]
    exact List.mem_cons_self
  | x :: r, n + 1, l, a, ha, hx, hn, hz => by
    have e : l ++ x :: r = (l ++ [x]) ++ r := by simp
    rw [e] at hz ⊢
    have ih := zf_mem (g := g) r n (l ++ [x]) x ha.2 (fun y hy => hx y (by simp [hy])) (by simpa using hn) hz
    rw [subsN_snoc] at ih
    have h0 : (nextN g (subsN g l) x).testBit 0 = false := by
      cases hb : (nextN g (subsN g l) x).testBit 0 with
      | false => rfl
      | true =>
        have h2 : (subsN g (l ++ [x])).testBit 0 = true := by rw [subsN_snoc]; exact hb
        rw [subs_mono g r (l ++ [x]) h2] at hz
        cases hz
    unfold zfT
    refine List.mem_cons_of_mem _ (List.mem_flatMap.2 ⟨x, ?_, ih⟩)
    have hxo := hx x (by simp)
    have hax := ha.1
    exact List.mem_filter.2 ⟨List.mem_range'_1.2 ⟨hax, by omega⟩, by rw [h0]; rfl⟩
def chkZ (g : List Nat) : Bool := Nat.blt 7 (ordN g) || (zfT g 13 [] 0 1).all fun m => Nat.blt m.length (ordN g)
theorem chkZ_all : (allG.all chkZ) = true := by decide +kernel
theorem asc_up {l : List Nat} {a b : Nat} (h : AscF a l) (hb : ∀ x ∈ l, b ≤ x) : AscF b l := by
  cases l with
  | nil => trivial
  | cons x l => exact ⟨hb x (by simp), h.2⟩
theorem least_ord {g l y : List Nat} (v : VS g l) (hs : isSeq (natsI g) (natsI l) = true) (hl8 : l.length ≤ 8) (h : Least g l y) : y.length ≤ ordN g := by
  have hyl := h.sub.length_le
  by_cases h8 : 8 ≤ ordN g
  · omega
  · have hy1 : 1 ≤ y.length := List.length_pos_iff.2 h.some
    have vy := vs_sub v h.sub
    have hin : (y.take (y.length - 1)).Sublist y := List.take_sublist _ _
    have hil : (y.take (y.length - 1)).length = y.length - 1 := by rw [List.length_take]; omega
    have hfree : (subsN g (y.take (y.length - 1))).testBit 0 = false := by
      cases hb : (subsN g (y.take (y.length - 1))).testBit 0 with
      | false => rfl
      | true =>
        obtain ⟨s, s1, s2, s3⟩ := (subs_sub v.grp _ (fun x hx => vy.each x (hin.subset hx)) 0).1 hb
        have := h.min s (s1.trans hin) s2 s3
        have := s1.length_le
        omega
    have hpos : ∀ x ∈ y.take (y.length - 1), 1 ≤ x := fun x hx => by
      rcases Nat.eq_zero_or_pos x with h0 | h0
      · subst h0
        have hsub : [0].Sublist y := (List.singleton_sublist.2 hx).trans hin
        have hz0 : totN g [0] = 0 := addN_zero g 0 v.grp.each (ordN_pos v.grp.each)
        have := h.min [0] hsub (by simp) hz0
        simp only [List.length_singleton] at this
        have hx2 := List.length_pos_of_mem hx
        omega
      · exact h0
    have hasc : AscF 1 (y.take (y.length - 1)) := asc_up (asc_sub (hin.trans h.sub) 0 (asc_of_seq hs)) hpos
    have hmem := zf_mem (g := g) (y.take (y.length - 1)) 13 [] 1 hasc (fun x hx => vy.each x (hin.subset hx)) (by omega) (by rw [List.nil_append]; exact hfree)
    have hc := List.all_eq_true.1 chkZ_all g v.grp.mem
    unfold chkZ at hc
    have hb7 : Nat.blt 7 (ordN g) = false := by
      cases hb : Nat.blt 7 (ordN g) with
      | false => rfl
      | true => have := Nat.blt_eq.mp hb; omega
    rw [hb7, Bool.false_or] at hc
    have hmem' : y.take (y.length - 1) ∈ zfT g 13 [] 0 1 := by
      have e : subsN g [] = 0 := rfl
      rw [e, List.nil_append] at hmem
      exact hmem
    have := Nat.blt_eq.mp (List.all_eq_true.1 hc _ hmem')
    omega
/-! ### The sums by length make up all sums -/
def accS (g l : List Nat) (j : Nat) : Nat := (List.range j).foldl (fun o k => o ||| lenN g l (k + 1)) 0
theorem accS_lt {g l : List Nat} (v : VG g) (j : Nat) : accS g l j < 2 ^ ordN g := orFold_lt (f := fun k => lenN g l (k + 1)) (Nat.two_pow_pos _) fun y _ => lenN_lt v l (y + 1)
theorem accS_all {g l : List Nat} (v : VS g l) : accS g l l.length = subsN g l := by
  apply Nat.eq_of_testBit_eq
  intro z
  rw [Bool.eq_iff_iff, subs_sub v.grp l v.each z]
  unfold accS
  rw [orFold_test (fun k => lenN g l (k + 1)), Nat.zero_testBit, Bool.false_or, List.any_eq_true]
  constructor
  · rintro ⟨k, hk, hb⟩
    obtain ⟨s, h1, h2, h3⟩ := (len_sub v.grp l v.each (k + 1) z).1 hb
    exact ⟨s, h1, by intro e; rw [e] at h2; simp at h2, h3⟩
  · rintro ⟨s, h1, h2, h3⟩
    have hp : 1 ≤ s.length := List.length_pos_iff.2 h2
    have hle := h1.length_le
    refine ⟨s.length - 1, List.mem_range.2 (by omega), (len_sub v.grp l v.each _ z).2 ⟨s, h1, by omega, h3⟩⟩
theorem i_subLen_eq {g l : List Nat} (v : VS g l) (hs : isSeq (natsI g) (natsI l) = true) {k : Nat} (hk : k ≤ l.length) : f_i_SubsumsOfLength (ints (natsI g)) (ints (natsI l)) (k : Int) = some ((lenN g l k : Nat) : Int) := by
  have h12 := v.len
  have hlimL : (natsI l).length ≤ lim := by rw [natsI_length]; exact v.lim
  have hb : inB (k : Int) 0 (l.length : Int) = true := by simp [inB]; omega
  have gi : (rowN (l.length + 1) (lenN g l)).getD k 0 = lenN g l k := rowN_get (by omega)
  simp only [f_i_SubsumsOfLength, f_i_SubsumsOfLength_k, i_IsSequence_eq _ _ v.grp.lim hlimL, hs, bo_some, i_within_eq, ints_length, natsI_length, hb, i_byLength_eq v.grp v.each v.len, natsI_row_len, rowN_length, in_nat (by omega : k < l.length + 1), Int.toNat_natCast, kAt_ints, atN_natsI, gi, br_true]
  rfl
/-! ### The draws -/
theorem l16Both_ok' {x0 : List Int} (hx : x0.length ≤ 1048576) : ∃ G L, f_s_l16Both (bytesL x0) = some (ints G, ints L) ∧ G.length ≤ 4 ∧ L.length ≤ 8 := by
  obtain ⟨c, e, h⟩ := l1New_ok hx
  obtain ⟨G, L, c1, e1, h1, hG, hL⟩ := l16Draw_ok h 7 (by decide)
  have e1' : f_s_l16Draw_io 7 c.1 c.2.1 c.2.2 = _ := e1
  simp only [f_s_l16Both, f_s_l16Both_k, e, bo_some, e1']
  exact ⟨G, L, rfl, hG, hL⟩
theorem DrawSortSequence_ok {x0 : List Int} (hx : x0.length ≤ 1048576) : ∃ G L, f_s_DrawSortSequence (bytesL x0) = some (ints G, ints L) ∧ G.length ≤ 4 ∧ L.length ≤ 8 := by
  obtain ⟨G, L, e, hG, hL⟩ := l16Both_ok' hx
  by_cases h1 : 1 < L.length
  · have d1 : decide ((L.length : Int) > 1) = true := decide_eq_true (by omega)
    have i0 : inRange 0 L.length = true := in_nat (k := 0) (by omega)
    have i1 : inRange 1 L.length = true := in_nat (k := 1) (by omega)
    simp only [f_s_DrawSortSequence, f_s_DrawSortSequence_k, e, bo_some, ints_length, d1, br_true, i0, i1, Int.toNat_zero, show (1 : Int).toNat = 1 from rfl, kAt_ints, atN_ints, ints_set, List.length_set]
    exact ⟨G, _, rfl, hG, by rw [List.length_set, List.length_set]; exact hL⟩
  · have d1 : decide ((L.length : Int) > 1) = false := decide_eq_false (by omega)
    simp only [f_s_DrawSortSequence, f_s_DrawSortSequence_k, e, bo_some, ints_length, d1, br_false]
    exact ⟨G, L, rfl, hG, hL⟩
theorem DrawSubsumsOfLength_ok {x0 : List Int} (hx : x0.length ≤ 1048576) : ∃ G L k, f_s_DrawSubsumsOfLength (bytesL x0) = some (ints G, ints L, k) ∧ G.length ≤ 4 ∧ L.length ≤ 8 := by
  obtain ⟨G, L, e, hG, hL⟩ := l16Both_ok' hx
  obtain ⟨r, hr⟩ : ∃ r : Nat, ((bytesL x0).length : Int).tmod 6 = (r : Int) := ⟨(bytesL x0).length % 6, rfl⟩
  have hr6 : r < 6 := by
    have := tmod_range (a := ((bytesL x0).length : Int)) (n := 6) (by omega) (by decide)
    rw [hr] at this
    omega
  have i0 : inRange (r : Int) (ints [0, 1, 2, 3, -1, 13]).length = true := by rw [inRange_nat]; exact decide_eq_true hr6
  have i1 : inRange (r : Int) [(Sc.n .i64 0), (Sc.n .i64 1), (Sc.n .i64 2), (Sc.n .i64 3), (Sc.n .i64 (-1)), (Sc.n .i64 13)].length = true := i0
  have i2 : kAt [(Sc.n .i64 0), (Sc.n .i64 1), (Sc.n .i64 2), (Sc.n .i64 3), (Sc.n .i64 (-1)), (Sc.n .i64 13)] r = true := kAt_ints [0, 1, 2, 3, -1, 13] r
  simp only [f_s_DrawSubsumsOfLength, f_s_DrawSubsumsOfLength_k, f_s_DrawSubsumsOfLength_g2, f_s_DrawSubsumsOfLength_g2_k, e, bo_some, hr, i1, Int.toNat_natCast, i2, br_true]
  exact ⟨G, L, _, rfl, hG, hL⟩
theorem l2Element_ok {x0 : List Int} {c : List Sc × Int × Int} (hc : Cur x0 c) (G : List Int) (hG : G.length ≤ lim) : ∃ r c', f_s_l2Element_io (ints G) c.1 c.2.1 c.2.2 = some (r, c') ∧ Cur x0 c' := by
  obtain ⟨b, c1, e1, h1⟩ := l1Once_ok hc 16 (by decide)
  obtain ⟨k, c2, e2, h2, _⟩ := l1PickInt_ok h1 [-1, 24, 9223372036854775807] (by decide) (by decide)
  have hO := ordG_range G
  have hif : (if ordG G > 1 then ordG G else 1) ≤ 256 := by split <;> omega
  obtain ⟨r, c3, e3, h3, _⟩ := l1Below_ok h1 (if ordG G > 1 then ordG G else 1) hif
  have e2' : f_s_l1PickInt_io [(Sc.n .i64 (-1)), (Sc.n .i64 24), (Sc.n .i64 9223372036854775807)] c1.1 c1.2.1 c1.2.2 = _ := e2
  simp only [f_s_l2Element_io, f_s_l2Element_io_k, e1, bo_some, e2', s_OrderOf_eq G hG, e3]
  cases b with
  | true => exact ⟨_, _, rfl, ⟨h2.row, h2.low, h2.len⟩⟩
  | false => exact ⟨_, _, rfl, ⟨h3.row, h3.low, h3.len⟩⟩
theorem DrawMultiplicityIn_ok {x0 : List Int} (hx : x0.length ≤ 1048576) : ∃ L k, f_s_DrawMultiplicityIn (bytesL x0) = some (ints L, k) ∧ L.length ≤ 8 := by
  obtain ⟨G, L, e, hG, hL⟩ := l16Both_ok' hx
  obtain ⟨c, e1, h1⟩ := l1New_ok hx
  obtain ⟨r, c2, e2, _⟩ := l2Element_ok h1 G (Nat.le_trans hG (by decide))
  simp only [f_s_DrawMultiplicityIn, f_s_DrawMultiplicityIn_k, f_s_DrawMultiplicityIn_g2, f_s_DrawMultiplicityIn_g2_k, e, bo_some, e1, e2]
  exact ⟨L, _, rfl, hL⟩
/-! ### The law -/
theorem SortSequence_more (G L : List Int) (h : G.length ≤ lim) (hL : L.length ≤ 12) : f_s_SortSequence (ints G) (ints L) = some (if isSeq G (insAllZ L) then (ints (insAllZ L), true) else ([], false)) ∧ f_i_SortSequence (ints G) (ints L) = some (if isSeq G (insAllZ L) then (ints (insAllZ L), true) else ([], false)) := by
  have hLl : L.length ≤ lim := Nat.le_trans hL (by decide)
  have hlen : (insAllZ L).length = L.length := (insAllZ_perm L).length_eq
  have c1 : decide (([] : List Sc).length + L.length ≤ lim) = true := by
    rw [List.length_nil, Nat.zero_add]
    exact decide_eq_true hLl
  have hsort : f_slices_Sort (ints L) = some (ints (insAllZ L)) := sortSc_ins hLl
  have d1 : decide ((L.length : Int) > 12) = false := decide_eq_false (by omega)
  constructor
  · simp only [f_s_SortSequence, f_s_SortSequence_k, ints_length, d1, br_false, s_l16Sort_eq hL, bo_some, s_IsSequence_eq G (insAllZ L) h (by rw [hlen]; exact hLl)]
    cases isSeq G (insAllZ L) <;> rfl
  · simp only [f_i_SortSequence, f_i_SortSequence_k, f_i_copyInts, f_i_copyInts_k, ints_length, c1, br_true, List.nil_append, bo_some, hsort, i_IsSequence_eq G (insAllZ L) h (by rw [hlen]; exact hLl)]
    cases isSeq G (insAllZ L) <;> rfl
theorem FnSequences_w19 {x0 : List Int} (hx : x0.length ≤ 1048576) : f_l_FnSequences_w19 (bytesL x0) = some true := by
  obtain ⟨H, M, e1, hH, hM⟩ := DrawSortSequence_ok hx
  obtain ⟨C, D, k, e2, hC, hD⟩ := DrawSubsumsOfLength_ok hx
  obtain ⟨E, f, e3, hE⟩ := DrawMultiplicityIn_ok hx
  obtain ⟨I, J, e4, hI, hJ⟩ := l16Both_ok' hx
  have up : ∀ {n : Nat}, n ≤ 8 → n ≤ lim := fun h => Nat.le_trans h (by decide)
  have up4 : ∀ {n : Nat}, n ≤ 4 → n ≤ lim := fun h => Nat.le_trans h (by decide)
  obtain ⟨s1, s2⟩ := SortSequence_more H M (up4 hH) (by omega)
  obtain ⟨a, a1, a2⟩ := SubsumsOfLength_both C D k (up4 hC) (up hD)
  have m1 := s_MultiplicityIn_eq E f (up hE)
  have m2 := i_MultiplicityIn_eq E f (up hE)
  obtain ⟨b, b1, b2⟩ := FormatSequence_both I J (up4 hI) (up hJ)
  obtain ⟨z, z1, z2, _⟩ := IsZeroFree_seq I J (up4 hI) (up hJ)
  have hlen : (insAllZ M).length = M.length := (insAllZ_perm M).length_eq
  have q1 := i_IsSequence_eq H (insAllZ M) (up4 hH) (by rw [hlen]; exact up hM)
  simp only [f_l_FnSequences_w19, f_l_FnSequences_w19_k, f_l_FnSequences_w25, f_l_FnSequences_w25_k, f_l_FnSequences_m25_0_k, f_l_FnSequences_m25_1_k, f_l_FnSequences_m25_2_k, f_l_FnSequences_m25_3_k, f_l_FnSequences_m25_4_k, e1, e2, e3, f_s_DrawFormatSequence, f_s_DrawFormatSequence_k, e4, s1, s2, bo_some]
  cases hq : isSeq H (insAllZ M) with
  | false =>
    have s0 : f_l_sameInts [] [] = some true := sameInts_self [] (by decide)
    simp only [Bool.false_eq_true, if_false, s0, bo_some, BEq.rfl, br_true, Bool.not_false, show (true == false) = false from rfl, br_false, a1, a2, m1, m2, b1, b2, z1, z2]
  | true =>
    rw [hq] at q1
    have s0 := sameInts_self (insAllZ M) (by rw [hlen]; exact up hM)
    simp only [if_true, s0, bo_some, BEq.rfl, br_true, Bool.not_true, q1, ints_length, hlen, a1, a2, m1, m2, b1, b2, z1, z2]
theorem FnSequences_w11 {x0 g l y : List Nat} {c : List Int} (hx : c.length ≤ 1048576) (v : VS g l) (hs : isSeq (natsI g) (natsI l) = true) (hy : y.length ≤ ordN g) :
    f_l_FnSequences_w11 (ints (natsI g)) (bytesL c) (ints (natsI l)) (ints (natsI y)) ((subsN g l : Nat) : Int) = some true := by
  have hlen := v.len
  have pw := pow24 v.grp (accS_lt (l := l) v.grp l.length)
  have key := loop_count (rd := f_l_FnSequences_r0 (bytesL c) ((subsN g l : Nat) : Int)) (fun j => (ints (natsI g), ints (natsI l), ints (natsI y), ((accS g l j : Nat) : Int), ((j + 1 : Nat) : Int))) l.length (a := (ints (natsI g), ints (natsI l), ints (natsI y), ((accS g l l.length : Nat) : Int))) (fun j hj => by
    have d : decide (((j + 1 : Nat) : Int) ≤ (l.length : Int)) = true := decide_eq_true (by omega)
    have p1 := pow24 v.grp (accS_lt (l := l) v.grp j)
    have p2 := pow24 v.grp (lenN_lt v.grp l (j + 1))
    have eo : or64 ((accS g l j : Nat) : Int) ((lenN g l (j + 1) : Nat) : Int) = ((accS g l (j + 1) : Nat) : Int) := by
      rw [or64_nat (by omega) (by omega)]
      unfold accS
      rw [List.range_succ, List.foldl_append]
      rfl
    simp only [f_l_FnSequences_r0, f_l_FnSequences_k0, ints_length, natsI_length, d, br_true, i_subLen_eq v hs (show j + 1 ≤ l.length by omega), bo_some, eo, w64_nat (show j + 1 < 9223372036854775807 by omega)]) (by
    have d : decide (((l.length + 1 : Nat) : Int) ≤ (l.length : Int)) = false := decide_eq_false (by omega)
    simp only [f_l_FnSequences_r0, f_l_FnSequences_k0, ints_length, natsI_length, d, br_false]) 0 (Nat.zero_le _)
  rw [accS_all v] at key
  have key' : loopL (f_l_FnSequences_r0 (bytesL c) ((subsN g l : Nat) : Int)) (ints (natsI g), ints (natsI l), ints (natsI y), 0, 1) = _ := key
  have d0 : decide (((subsN g l : Nat) : Int) ≥ 0) = true := decide_eq_true (by omega)
  have l0 : lenN g l 0 = 1 := by
    refine rev_ind (P := fun l => lenN g l 0 = 1) rfl (fun l x h => ?_) l
    rw [lenN_snoc]
    exact h
  have k0 := i_subLen_eq v hs (Nat.zero_le l.length)
  rw [l0] at k0
  have k0' : f_i_SubsumsOfLength (ints (natsI g)) (ints (natsI l)) 0 = some 1 := k0
  have dgt : decide ((y.length : Int) > ((ordN g : Nat) : Int)) = false := decide_eq_false (by omega)
  simp only [f_l_FnSequences_w11, f_l_FnSequences_w11_k, d0, br_true, key', bl1_one, bne_self_eq_false, BEq.rfl, k0', bo_some, ints_length, natsI_length, s_OrderOf_eq _ v.grp.lim, v.grp.ordG, dgt, br_false, FnSequences_w19 hx]
  cases decide ((l.length : Int) > 0) == true with
  | false => rfl
  | true =>
    cases decide ((y.length : Int) > 0) == true with
    | false => rfl
    | true => rfl
theorem FnSequences_w8 {g l y : List Nat} {c : List Int} (hx : c.length ≤ 1048576) (v : VS g l) (hs : isSeq (natsI g) (natsI l) = true) (hy : y.length ≤ ordN g) :
    f_l_FnSequences_w8 (ints (natsI g)) (bytesL c) (ints (natsI l)) (ints (natsI y)) = some true := by
  have hlimL : (natsI l).length ≤ lim := by rw [natsI_length]; exact v.lim
  obtain ⟨r, r1, r2⟩ := SumOfSequence_both (natsI g) (natsI l) v.grp.lim hlimL
  have s1 : f_s_SubsumsOf (ints (natsI g)) (ints (natsI l)) = some ((subsN g l : Nat) : Int) := by
    simp only [f_s_SubsumsOf, f_s_SubsumsOf_k, s_IsSequence_eq _ _ v.grp.lim hlimL, hs, bo_some, (s_l16Subsums_eq v.grp v.each v.lim).1]
    rfl
  have s2 : f_i_SubsumsOf (ints (natsI g)) (ints (natsI l)) = some ((subsN g l : Nat) : Int) := by
    simp only [f_i_SubsumsOf, f_i_SubsumsOf_k, i_IsSequence_eq _ _ v.grp.lim hlimL, hs, bo_some, (i_subsums_eq v.grp v.each v.lim).1]
    rfl
  simp only [f_l_FnSequences_w8, f_l_FnSequences_w8_k, s1, s2, bo_some, bne_self_eq_false, BEq.rfl, br_true, s_IsSequence_eq _ _ v.grp.lim hlimL, i_IsSequence_eq _ _ v.grp.lim hlimL, Bool.not_true, r1, r2, br_false, FnSequences_w11 (x0 := []) hx v hs hy]
theorem FnSequences_w8_no {G L : List Int} {c : List Int} (hx : c.length ≤ 1048576) (hG : G.length ≤ lim) (hL : L.length ≤ lim) (hs : isSeq G L = false) :
    f_l_FnSequences_w8 (ints G) (bytesL c) (ints L) [] = some true := by
  obtain ⟨r, r1, r2⟩ := SumOfSequence_both G L hG hL
  have s1 : f_s_SubsumsOf (ints G) (ints L) = some (-1) := by
    simp only [f_s_SubsumsOf, f_s_SubsumsOf_k, s_IsSequence_eq _ _ hG hL, hs, bo_some]
    rfl
  have s2 : f_i_SubsumsOf (ints G) (ints L) = some (-1) := by
    simp only [f_i_SubsumsOf, f_i_SubsumsOf_k, i_IsSequence_eq _ _ hG hL, hs, bo_some]
    rfl
  have d0 : decide ((-1 : Int) ≥ 0) = false := by decide
  simp only [f_l_FnSequences_w8, f_l_FnSequences_w8_k, s1, s2, bo_some, bne_self_eq_false, BEq.rfl, br_true, s_IsSequence_eq _ _ hG hL, i_IsSequence_eq _ _ hG hL, Bool.not_true, r1, r2, br_false, f_l_FnSequences_w11, f_l_FnSequences_w11_k, d0, FnSequences_w19 hx]
theorem FnSequences_plain (x0 : List Int) (w0 : x0.length ≤ maxLen) : f_l_FnSequences (bytesL x0) = some true := by
  simp only [f_l_FnSequences, f_l_FnSequences_k, f_l_big, f_l_big_k, bytesL_len, bo_some]
  by_cases hb : (x0.length : Int) > 1048576
  · rw [decide_eq_true hb]
    rfl
  · rw [decide_eq_false hb]
    have hx : x0.length ≤ 1048576 := by omega
    obtain ⟨G, L, e1, hG, hL⟩ := l16Both_ok' hx
    have hGl : G.length ≤ lim := Nat.le_trans hG (by decide)
    have hLl : L.length ≤ lim := Nat.le_trans hL (by decide)
    have s0 : f_l_sameInts [] [] = some true := sameInts_self [] (by decide)
    have ff : (false == true) = false := rfl
    have tf : (true == false) = false := rfl
    have key : f_l_FnSequences_w3 (bytesL x0) = some true := by
      rcases ShortestZero_more G L hGl hLl with ⟨hs, f1, f2⟩ | ⟨g, l, rfl, rfl, v, hs, hc⟩
      · simp only [f_l_FnSequences_w3, f_l_FnSequences_w3_k, f_s_DrawShortestZero, f_s_DrawShortestZero_k, e1, bo_some, f1, f2, BEq.rfl, Bool.not_true, br_true, s0, ff, br_false, s_IsSequence_eq G L hGl hLl, hs, FnSequences_w8_no hx hGl hLl hs]
      · have z0 := i_IsZeroFree_eq hs
        rcases hc with ⟨hno, f1, f2⟩ | ⟨y, hy, f1, f2⟩
        · have hf : (subsN g l).testBit 0 = false := by
            cases hb : (subsN g l).testBit 0 with
            | false => rfl
            | true =>
              obtain ⟨s, s1, s2, s3⟩ := (subs_sub v.grp l v.each 0).1 hb
              exact absurd s3 (hno s s1 s2)
          rw [hf] at z0
          have w8 := FnSequences_w8 (y := []) hx v hs (Nat.zero_le _)
          have w8' : f_l_FnSequences_w8 (ints (natsI g)) (bytesL x0) (ints (natsI l)) [] = some true := w8
          simp only [f_l_FnSequences_w3, f_l_FnSequences_w3_k, f_s_DrawShortestZero, f_s_DrawShortestZero_k, e1, bo_some, f1, f2, BEq.rfl, Bool.not_true, Bool.not_false, br_true, s0, ff, br_false, s_IsSequence_eq _ _ hGl hLl, hs, z0, w8']
        · have hf : (subsN g l).testBit 0 = true := (subs_sub v.grp l v.each 0).2 ⟨y, hy.sub, hy.some, hy.zero⟩
          rw [hf] at z0
          have vy := vs_sub v hy.sub
          have ys := seq_sub v hs hy.sub
          have at1 := i_IsAtom_least vy ys hy.some hy.zero hy.min
          have hl8 : l.length ≤ 8 := by rw [natsI_length] at hL; exact hL
          have w8 := FnSequences_w8 (y := y) hx v hs (least_ord v hs hl8 hy)
          have sy := sameInts_self (natsI y) (by rw [natsI_length]; exact vy.lim)
          simp only [f_l_FnSequences_w3, f_l_FnSequences_w3_k, f_s_DrawShortestZero, f_s_DrawShortestZero_k, e1, bo_some, f1, f2, BEq.rfl, Bool.not_true, br_true, sy, at1, tf, br_false, s_IsSequence_eq _ _ hGl hLl, hs, z0, w8]
    rw [key]
    rfl
end Go.Proofs.Ytphbclogflflmaa
