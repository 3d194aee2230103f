/-
  PlainT: parts of a sequence as sublists; IsAtom.
-/
import Derived.Test.YtgbjnchipnbohaaPlainS
import Derived.Test.YtgbjnchipnbohaaPlainR
import Derived.Test.YtgbjnchipnbohaaPlainK
set_option linter.unusedVariables false
set_option linter.unusedSimpArgs false
namespace Go.Proofs.Ytgbjnchipnbohaa
open Go Ev

theorem sub_erase {α : Type} {s l : List α} (h : s.Sublist l) : s.length < l.length → ∃ i, i < l.length ∧ s.Sublist (l.take i ++ l.drop (i + 1)) := by
  induction h with
  | slnil => intro h; exact absurd h (by simp)
  | @cons s l a h ih => intro _; exact ⟨0, by simp, by simpa using h⟩
  | @cons_cons s l a h ih =>
    intro hl
    obtain ⟨i, hi, hs⟩ := ih (by simpa using hl)
    exact ⟨i + 1, by simpa using hi, by simpa using hs⟩
theorem erase_sub {α : Type} (l : List α) (i : Nat) : (l.take i ++ l.drop (i + 1)).Sublist l := by
  have := List.Sublist.append (List.Sublist.refl (l.take i)) (List.drop_sublist 1 (l.drop i))
  rw [List.take_append_drop, List.drop_drop] at this
  rwa [Nat.add_comm] at this ⊢
theorem erase_len {α : Type} (l : List α) (i : Nat) (h : i < l.length) : (l.take i ++ l.drop (i + 1)).length + 1 = l.length := by
  rw [List.length_append, List.length_take, List.length_drop]
  omega
theorem pcn_full : ∀ (n c : Nat), c < 2 ^ n → (pcn n c = n ↔ c + 1 = 2 ^ n)
  | 0, c, h => by simp at h; subst h; simp [pcn]
  | n + 1, c, h => by
    have h1 := pcn_full n (c / 2) (by rw [Nat.pow_succ] at h; omega)
    have h2 := pcn_le n (c / 2)
    simp only [pcn, Nat.pow_succ] at *
    omega
/-- The sums of parts are the sums of sublists. -/
theorem subs_sub {g : List Nat} (v : VG g) : ∀ (l : List Nat), (∀ x ∈ l, x < ordN g) → ∀ z, ((subsN g l).testBit z = true ↔ ∃ s, s.Sublist l ∧ s ≠ [] ∧ totN g s = z) := by
  intro l
  refine rev_ind (P := fun l => (∀ x ∈ l, x < ordN g) → ∀ z, ((subsN g l).testBit z = true ↔ ∃ s, s.Sublist l ∧ s ≠ [] ∧ totN g s = z)) ?_ ?_ l
  · intro _ z
    constructor
    · intro h; exact absurd h (by simp [subsN])
    · rintro ⟨s, hs, hn, _⟩
      exact absurd (List.sublist_nil.1 hs) hn
  · intro l x ih hl z
    have hl' : ∀ y ∈ l, y < ordN g := fun y hy => hl y (by simp [hy])
    have hx : x < ordN g := hl x (by simp)
    have hlt : subsN g l < 2 ^ ordN g := subsN_lt v l 0 (Nat.two_pow_pos _) hl'
    rw [subsN_snoc]
    unfold subF
    rw [Nat.testBit_or, Nat.testBit_or, Bool.or_eq_true, Bool.or_eq_true, shiftN_test, List.any_eq_true, pow_test, ih hl' z]
    constructor
    · rintro ((⟨s, h1, h2, h3⟩ | ⟨y, hy, hz⟩) | hz)
      · exact ⟨s, h1.trans (List.sublist_append_left _ _), h2, h3⟩
      · rw [mem_elems (set_i64 v hlt)] at hy
        obtain ⟨s, h1, h2, h3⟩ := (ih hl' y).1 hy
        refine ⟨s ++ [x], h1.append (List.Sublist.refl _), by simp, ?_⟩
        rw [totN_snoc, h3, addN_comm]
        exact of_decide_eq_true hz
      · refine ⟨[x], List.sublist_append_right _ _, by simp, ?_⟩
        have : totN g [x] = addN g 0 x := rfl
        rw [this, addN_zero g x v.each hx]
        exact of_decide_eq_true hz
    · rintro ⟨s, h1, h2, h3⟩
      obtain ⟨a, b, rfl, ha, hb⟩ := List.sublist_append_iff.1 h1
      have hb' : b = [] ∨ b = [x] := by
        cases hb with
        | cons _ h => exact .inl (List.sublist_nil.1 h)
        | cons_cons _ h => exact .inr (by rw [List.sublist_nil.1 h])
      rcases hb' with rfl | rfl
      · rw [List.append_nil] at h2 h3
        exact .inl (.inl ⟨a, ha, h2, h3⟩)
      · by_cases he : a = []
        · subst he
          refine .inr (decide_eq_true ?_)
          rw [← h3]
          show x = addN g 0 x
          rw [addN_zero g x v.each hx]
        · refine .inl (.inr ⟨totN g a, (mem_elems (set_i64 v hlt)).2 ((ih hl' _).2 ⟨a, ha, he, rfl⟩), decide_eq_true ?_⟩)
          rw [← h3, totN_snoc, addN_comm]
theorem subN_take (l : List Nat) (c : Nat) : ∀ n, n ≤ l.length → (subN l c n).Sublist (l.take n)
  | 0, _ => by simp [subN]
  | n + 1, h => by
    have ih := subN_take l c n (by omega)
    rw [subN_succ, take_snoc l (by omega)]
    split
    · exact ih.append (List.Sublist.refl _)
    · exact ih.trans (List.sublist_append_left _ _)
theorem subN_sub (l : List Nat) (c : Nat) : (subN l c l.length).Sublist l := by
  have := subN_take l c l.length (Nat.le_refl _)
  rwa [List.take_length] at this
theorem sub_take (l : List Nat) : ∀ n, n ≤ l.length → ∀ s, s.Sublist (l.take n) → ∃ c, c < 2 ^ n ∧ subN l c n = s
  | 0, _, s, h => ⟨0, by simp, by rw [List.take_zero] at h; rw [List.sublist_nil.1 h]; simp [subN]⟩
  | n + 1, hn, s, h => by
    rw [take_snoc l (by omega)] at h
    obtain ⟨a, b, rfl, ha, hb⟩ := List.sublist_append_iff.1 h
    obtain ⟨c, hc, he⟩ := sub_take l n (by omega) a ha
    have hb' : b = [] ∨ b = [l.getD n 0] := by
      cases hb with
      | cons _ h => exact .inl (List.sublist_nil.1 h)
      | cons_cons _ h => exact .inr (by rw [List.sublist_nil.1 h])
    rcases hb' with rfl | rfl
    · refine ⟨c, by rw [Nat.pow_succ]; omega, ?_⟩
      rw [subN_succ, if_neg (by rw [Nat.testBit_lt_two_pow hc]; simp), he, List.append_nil]
    · refine ⟨2 ^ n + c, by rw [Nat.pow_succ]; omega, ?_⟩
      rw [subN_succ, if_pos (by rw [Nat.testBit_two_pow_add_eq, Nat.testBit_lt_two_pow hc]; rfl), subN_add, he]
theorem sub_code (l s : List Nat) (h : s.Sublist l) : ∃ c, c < 2 ^ l.length ∧ subN l c l.length = s := sub_take l l.length (Nat.le_refl _) s (by rwa [List.take_length])

/-- Some part that lacks a term has the sum 0: by the term that it lacks; by codes. -/
def lackA (g l : List Nat) : Bool := (List.range l.length).any fun i => (subsN g (l.take i ++ l.drop (i + 1))).testBit 0
def lackB (g l : List Nat) : Bool := (List.range (2 ^ l.length - 2)).any fun j => decide (totN g (subN l (j + 1) l.length) = 0)
theorem lack_iff {g l : List Nat} (v : VG g) (hl : ∀ x ∈ l, x < ordN g) : lackA g l = true ↔ ∃ s, s.Sublist l ∧ s ≠ [] ∧ s.length < l.length ∧ totN g s = 0 := by
  unfold lackA
  rw [List.any_eq_true]
  constructor
  · rintro ⟨i, hi, hb⟩
    have hi := List.mem_range.1 hi
    have hsub := erase_sub l i
    obtain ⟨s, h1, h2, h3⟩ := (subs_sub v _ (fun x hx => hl x (hsub.subset hx)) 0).1 hb
    refine ⟨s, h1.trans hsub, h2, ?_, h3⟩
    have := h1.length_le
    have := erase_len l i hi
    omega
  · rintro ⟨s, h1, h2, h3, h4⟩
    obtain ⟨i, hi, hs⟩ := sub_erase h1 h3
    have hsub := erase_sub l i
    exact ⟨i, List.mem_range.2 hi, (subs_sub v _ (fun x hx => hl x (hsub.subset hx)) 0).2 ⟨s, hs, h2, h4⟩⟩
theorem lack_same {g l : List Nat} (v : VS g l) : lackA g l = lackB g l := by
  have hlen := v.len
  rw [Bool.eq_iff_iff, lack_iff v.grp v.each]
  unfold lackB
  rw [List.any_eq_true]
  have hpop : ∀ c, c < 2 ^ l.length → (subN l c l.length).length = pcn l.length c := fun c hc => by
    rw [subN_pop l hc (by omega)]
    exact pcn_small l.length 63 c hc (by omega)
  constructor
  · rintro ⟨s, h1, h2, h3, h4⟩
    obtain ⟨c, hc, rfl⟩ := sub_code l s h1
    have hp := hpop c hc
    have hc0 : c ≠ 0 := by
      rintro rfl
      exact h2 (List.length_eq_zero_iff.1 (by rw [hp, pcn_zero]))
    have hc1 : c + 1 ≠ 2 ^ l.length := fun e => by
      have := (pcn_full _ _ hc).2 e
      omega
    exact ⟨c - 1, List.mem_range.2 (by omega), decide_eq_true (by rw [show c - 1 + 1 = c by omega]; exact h4)⟩
  · rintro ⟨j, hj, hz⟩
    have hj := List.mem_range.1 hj
    have hc : j + 1 < 2 ^ l.length := by omega
    have hp := hpop (j + 1) hc
    refine ⟨subN l (j + 1) l.length, subN_sub l (j + 1), fun e => ?_, ?_, of_decide_eq_true hz⟩
    · rw [e, List.length_nil] at hp
      have := pcn_none _ _ hc hp.symm
      omega
    · have h1 := pcn_le l.length (j + 1)
      have h2 : pcn l.length (j + 1) ≠ l.length := fun e => by
        have := (pcn_full _ _ hc).1 e
        omega
      omega
theorem slice_nat (l : List Nat) (a b : Nat) : sliceA (ints (natsI l)) (a : Int) (b : Int) = ints (natsI ((l.take b).drop a)) := by
  simp only [sliceA, ints, natsI, Int.toNat_natCast, List.map_take, List.map_drop]
theorem ints_natsI_app (l m : List Nat) : ints (natsI l) ++ ints (natsI m) = ints (natsI (l ++ m)) := by
  simp only [ints, natsI, List.map_append]
theorem s_minimal_eq {g l : List Nat} (v : VS g l) : f_s_l19Minimal (ints (natsI g)) (ints (natsI l)) = some (!lackA g l) := by
  have hlen := v.len
  have key := loop_any (rd := f_s_l19Minimal_r0 (ints (natsI l)) (ints (natsI g))) (fun k => (k : Int)) l.length (fun i => (subsN g (l.take i ++ l.drop (i + 1))).testBit 0) (a := ()) (b := ()) (fun k hk => by
      have hsub := erase_sub l k
      have hE := s_l16Subsums_eq v.grp (l := l.take k ++ l.drop (k + 1)) (fun x hx => v.each x (hsub.subset hx)) (Nat.le_trans hsub.length_le v.lim)
      have c1 : (decide (0 ≤ (0 : Int)) && (decide ((0 : Int) ≤ (k : Int)) && decide ((k : Int) ≤ (l.length : Int)))) = true := by simp; omega
      have c2 : (decide (0 ≤ ((k + 1 : Nat) : Int)) && (decide (((k + 1 : Nat) : Int) ≤ (l.length : Int)) && decide ((l.length : Int) ≤ (l.length : Int)))) = true := by simp; omega
      have z0 : sliceA (ints (natsI l)) 0 (k : Int) = ints (natsI (l.take k)) := by
        have := slice_nat l 0 k
        rwa [List.drop_zero] at this
      have z1 : sliceA (ints (natsI l)) ((k + 1 : Nat) : Int) (l.length : Int) = ints (natsI (l.drop (k + 1))) := by
        have := slice_nat l (k + 1) l.length
        rwa [List.take_length] at this
      have c3 : decide (([] : List Sc).length + (l.take k).length ≤ lim) = true := by
        simp only [List.length_nil, Nat.zero_add, List.length_take]
        exact decide_eq_true (Nat.le_trans (show min k l.length ≤ 12 by omega) (by decide))
      have c4 : decide ((l.take k).length + (l.drop (k + 1)).length ≤ lim) = true := by
        simp only [List.length_take, List.length_drop]
        exact decide_eq_true (Nat.le_trans (show min k l.length + (l.length - (k + 1)) ≤ 24 by omega) (by decide))
      simp only [f_s_l19Minimal_r0, f_s_l19Minimal_k0, ints_length, natsI_length, lt_dec hk, br_true, c1, w64_nat (by omega : k < 9223372036854775807), c2, z0, z1, c3, List.nil_append, c4, ints_natsI_app, hE.1, bo_some, bit_test0 (set_i64 v.grp hE.2)]
      cases (subsN g (l.take k ++ l.drop (k + 1))).testBit 0 <;> rfl) (by
      simp only [f_s_l19Minimal_r0, f_s_l19Minimal_k0, ints_length, natsI_length, lt_dec_self, br_false])
  have key : loopL (f_s_l19Minimal_r0 (ints (natsI l)) (ints (natsI g))) 0 = if lackA g l then some (.two ()) else some (.one ()) := key
  simp only [f_s_l19Minimal, f_s_l19Minimal_k, key]
  cases lackA g l <;> rfl
theorem IsZeroSum_cond (G L : List Int) (h : G.length ≤ lim) (hL : L.length ≤ lim) : ∃ r, f_s_IsZeroSum (ints G) (ints L) = some r ∧ f_i_IsZeroSum (ints G) (ints L) = some r ∧ (r = true → isSeq G L = true) := by
  simp only [f_s_IsZeroSum, f_s_IsZeroSum_k, f_i_IsZeroSum, f_i_IsZeroSum_k, s_IsSequence_eq G L h hL, i_IsSequence_eq G L h hL, bo_some]
  cases hs : isSeq G L with
  | false => exact ⟨_, rfl, rfl, fun h => by cases h⟩
  | true =>
    obtain ⟨g, l, rfl, rfl, v⟩ := nat_of_isSeq hs
    simp only [s_l16Sum_eq v.grp v.each v.lim, i_total_eq v.grp v.each v.lim, bo_some]
    exact ⟨_, rfl, rfl, fun _ => trivial⟩
theorem IsAtom_both (G L : List Int) (h : G.length ≤ lim) (hL : L.length ≤ lim) : ∃ r, f_s_IsAtom (ints G) (ints L) = some r ∧ f_i_IsAtom (ints G) (ints L) = some r := by
  obtain ⟨r, e1, e2, hr⟩ := IsZeroSum_cond G L h hL
  simp only [f_s_IsAtom, f_s_IsAtom_k, f_i_IsAtom, f_i_IsAtom_k, e1, e2, bo_some]
  cases r with
  | false => exact ⟨_, rfl, rfl⟩
  | true =>
    obtain ⟨g, l, rfl, rfl, v⟩ := nat_of_isSeq (hr rfl)
    have hlen := v.len
    simp only [ints_length, natsI_length]
    by_cases h0 : l.length = 0
    · rw [h0]; exact ⟨_, rfl, rfl⟩
    · have d0 : ((l.length : Int) == 0) = false := by
        have : ¬ ((l.length : Int) = 0) := by omega
        simpa using this
      have d1 : decide ((l.length : Int) > 0) = true := decide_eq_true (by omega)
      have e3 : w64 ((l.length : Int) - 1) = ((l.length - 1 : Nat) : Int) := by rw [show (l.length : Int) - 1 = ((l.length - 1 : Nat) : Int) by omega]; exact w64_cast (by omega)
      have hsub : (l.take (l.length - 1)).Sublist l := List.take_sublist _ _
      have hE := s_l16Subsums_eq v.grp (l := l.take (l.length - 1)) (fun x hx => v.each x (hsub.subset hx)) (Nat.le_trans hsub.length_le v.lim)
      have z0 : sliceA (ints (natsI l)) 0 ((l.length - 1 : Nat) : Int) = ints (natsI (l.take (l.length - 1))) := by
        have := slice_nat l 0 (l.length - 1)
        rwa [List.drop_zero] at this
      have c1 : (decide (0 ≤ (0 : Int)) && (decide ((0 : Int) ≤ ((l.length - 1 : Nat) : Int)) && decide (((l.length - 1 : Nat) : Int) ≤ (l.length : Int)))) = true := by simp
      obtain ⟨m, hm⟩ : ∃ m, 2 ^ l.length = m + 2 := ⟨2 ^ l.length - 2, by
        have : 2 ^ 1 ≤ 2 ^ l.length := Nat.pow_le_pow_right (by decide) (by omega)
        omega⟩
      have e9 : w64 (shl64 1 (l.length : Int) - 1) = ((m + 1 : Nat) : Int) := by
        rw [shl1_nat (by omega), hm, show ((m + 2 : Nat) : Int) - 1 = ((m + 1 : Nat) : Int) by omega]
        exact w64_cast (by have := code_lt hlen (show m + 1 < 2 ^ l.length by omega); omega)
      have key : loopL (f_i_IsAtom_r0 (ints (natsI l)) (ints (natsI g))) ((0 + 1 : Nat) : Int) = if (List.range m).any (fun j => decide (totN g (subN l (j + 1) l.length) = 0)) then some (.two ()) else some (.one ()) := by
        refine loop_any (rd := f_i_IsAtom_r0 (ints (natsI l)) (ints (natsI g))) (fun j => ((j + 1 : Nat) : Int)) m (fun j => decide (totN g (subN l (j + 1) l.length) = 0)) (fun j hj => ?_) ?_
        · have hc : j + 1 < 2 ^ l.length := by omega
          have hc2 := code_lt hlen hc
          have hp := i_part_eq (L := natsI l) (c := j + 1) (by rw [natsI_length]; exact hlen) (by omega)
          rw [natsI_length, subN_natsI] at hp
          have hj' : decide (((j + 1 : Nat) : Int) < ((m + 1 : Nat) : Int)) = true := decide_eq_true (by omega)
          simp only [f_i_IsAtom_r0, f_i_IsAtom_k0, ints_length, natsI_length, neg_dec, br_false, e9, hj', br_true, hp, bo_some, i_total_eq v.grp (subN_each v (j + 1)) (Nat.le_trans (subN_length _ _ _) v.lim), zero_dec, w64_nat (by omega : j + 1 < 9223372036854775807)]
          cases decide (totN g (subN l (j + 1) l.length) = 0) <;> rfl
        · simp only [f_i_IsAtom_r0, f_i_IsAtom_k0, ints_length, natsI_length, neg_dec, br_false, e9, lt_dec_self]
      have hB : lackB g l = (List.range m).any (fun j => decide (totN g (subN l (j + 1) l.length) = 0)) := by
        unfold lackB
        rw [hm, Nat.add_sub_cancel]
      rw [← hB, ← lack_same v, show ((0 + 1 : Nat) : Int) = 1 from rfl] at key
      simp only [d0, d1, e3, c1, z0, br_true, br_false, hE.1, bo_some, and_one_zero (set_i64 v.grp hE.2), s_minimal_eq v, key]
      cases hb : (subsN g (l.take (l.length - 1))).testBit 0 with
      | false => cases lackA g l <;> exact ⟨_, rfl, rfl⟩
      | true =>
        have : lackA g l = true := by
          rw [lack_iff v.grp v.each]
          obtain ⟨s, h1, h2, h3⟩ := (subs_sub v.grp _ (fun x hx => v.each x (hsub.subset hx)) 0).1 hb
          refine ⟨s, h1.trans hsub, h2, ?_, h3⟩
          have := h1.length_le
          rw [List.length_take] at this
          omega
        rw [this]
        exact ⟨_, rfl, rfl⟩
theorem FnExactIsAtom_plain (x0 : List Int) (x1 : List Int) (w0 : All64 x0) (w1 : All64 x1) : f_l_FnExactIsAtom (ints x0) (ints x1) = some true := by
  simp only [f_l_FnExactIsAtom, f_l_FnExactIsAtom_k, ints_length]
  by_cases h1 : x1.length ≤ 1048576
  · have d1 : decide ((x1.length : Int) > 1048576) = false := by simp; omega
    have hl1 := le_lim h1
    by_cases h : x0.length ≤ 1048576
    · obtain ⟨r, hr, hd⟩ := sz_gate h
      have hl := le_lim h
      obtain ⟨r2, e1, e2⟩ := IsAtom_both x0 x1 hl hl1
      simp only [d1, hr, bo_some, hd, br_false, grOk_ints _ hl, br_true, toIntS_eq _ hl1, e1, e2, bne_self_eq_false, eqGroup_self _ hl, eqIntS_self _ hl1, Bool.not_true, BEq.rfl]
    · obtain ⟨r, hr, hd⟩ := sz_shut h w0.2
      simp only [d1, hr, bo_some, hd, br_true, br_false]
  · have d1 : decide ((x1.length : Int) > 1048576) = true := by simp; omega
    simp only [d1, br_true]
end Go.Proofs.Ytgbjnchipnbohaa
