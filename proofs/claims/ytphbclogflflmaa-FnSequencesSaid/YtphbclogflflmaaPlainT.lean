/-
  PlainT: parts of a sequence as sublists; IsAtom.
-/
import Derived.Test.YtphbclogflflmaaPlainS
import Derived.Test.YtphbclogflflmaaPlainR
import Derived.Test.YtphbclogflflmaaPlainK
set_option linter.unusedVariables false
set_option linter.unusedSimpArgs false
namespace Go.Proofs.Ytphbclogflflmaa
open Go Ev

theorem sub_erase {α : Type} {s l : List α} (h : s.Sublist l) : s.length < l.length → ∃ i, i < l.length ∧ s.Sublist (l.take i ++ l.drop (i + 1)) := by
  induction h with
  | slnil => intro h; exact absurd h (by simp)
  | @cons s l a h ih => intro _; exact ⟨0, by simp, by simpa using h⟩
  | @cons_cons s l a h ih =>
    intro hl
    obtain ⟨i, hi, hs⟩ := ih (by simpa using hl)
    exact ⟨i + 1, by simpa using hi, by simpa using hs⟩
theorem erase_sub {α : Type} (l : List α) (i : Nat) : (l.take i ++ l.drop (i + 1)).Sublist l := by
  have := List.Sublist.append (List.Sublist.refl (l.take i)) (List.drop_sublist 1 (l.drop i))
  rw [List.take_append_drop, List.drop_drop] at this
  rwa [Nat.add_comm] at this ⊢
theorem erase_len {α : Type} (l : List α) (i : Nat) (h : i < l.length) : (l.take i ++ l.drop (i + 1)).length + 1 = l.length := by
  rw [List.length_append, List.length_take, List.length_drop]
  omega
theorem pcn_full : ∀ (n c : Nat), c < 2 ^ n → (pcn n c = n ↔ c + 1 = 2 ^ n)
  | 0, c, h => by simp at h; subst h; simp [pcn]
  | n + 1, c, h => by
    have h1 := pcn_full n (c / 2) (by rw [Nat.pow_succ] at h; omega)
    have h2 := pcn_le n (c / 2)
    simp only [pcn, Nat.pow_succ] at *
    omega
/-- The sums of parts are the sums of sublists. -/
theorem subs_sub {g : List Nat} (v : VG g) : ∀ (l : List Nat), (∀ x ∈ l, x < ordN g) → ∀ z, ((subsN g l).testBit z = true ↔ ∃ s, s.Sublist l ∧ s ≠ [] ∧ totN g s = z) := by
  intro l
  refine rev_ind (P := fun l => (∀ x ∈ l, x < ordN g) → ∀ z, ((subsN g l).testBit z = true ↔ ∃ s, s.Sublist l ∧ s ≠ [] ∧ totN g s = z)) ?_ ?_ l
  · intro _ z
    constructor
    · intro h; exact absurd h (by simp [subsN])
    · rintro ⟨s, hs, hn, _⟩
      exact absurd (List.sublist_nil.1 hs) hn
  · intro l x ih hl z
    have hl' : ∀ y ∈ l, y < ordN g := fun y hy => hl y (by simp [hy])
    have hx : x < ordN g := hl x (by simp)
    have hlt : subsN g l < 2 ^ ordN g := subsN_lt v l 0 (Nat.two_pow_pos _) hl'
    rw [subsN_snoc]
    unfold subF
    rw [Nat.testBit_or, Nat.testBit_or, Bool.or_eq_true, Bool.or_eq_true, shiftN_test, List.any_eq_true, pow_test, ih hl' z]
    constructor
    · rintro ((⟨s, h1, h2, h3⟩ | ⟨y, hy, hz⟩) | hz)
      · exact ⟨s, h1.trans (List.sublist_append_left _ _), h2, h3⟩
      · rw [mem_elems (set_i64 v hlt)] at hy
        obtain ⟨s, h1, h2, h3⟩ := (ih hl' y).1 hy
        refine ⟨s ++ [x], h1.append (List.Sublist.refl _), by simp, ?_⟩
        rw [totN_snoc, h3, addN_comm]
        exact of_decide_eq_true hz
      · refine ⟨[x], List.sublist_append_right _ _, by simp, ?_⟩
        have : totN g [x] = addN g 0 x := rfl
        rw [this, addN_zero g x v.each hx]
        exact of_decide_eq_true hz
    · rintro ⟨s, h1, h2, h3⟩
      obtain ⟨a, b, rfl, ha, hb⟩ := List.sublist_append_iff.1 h1
      have hb' : b = [] ∨ b = [x] := by
        cases hb with
        | cons _ h => exact .inl (List.sublist_nil.1 h)
        | cons_cons _ h => exact .inr (by rw [List.sublist_nil.1 h])
      rcases hb' with rfl | rfl
      · rw [List.append_nil] at h2 h3
        exact .inl (.inl ⟨a, ha, h2, h3⟩)
      · by_cases he : a = []
        · subst he
          refine .inr (decide_eq_true ?_)
          rw [← h3]
          show x = addN g 0 x
          rw [addN_zero g x v.each hx]
        · refine .inl (.inr ⟨totN g a, (mem_elems (set_i64 v hlt)).2 ((ih hl' _).2 ⟨a, ha, he, rfl⟩), decide_eq_true ?_⟩)
          rw [← h3, totN_snoc, addN_comm]
theorem subN_take (l : List Nat) (c : Nat) : ∀ n, n ≤ l.length → (subN l c n).Sublist (l.take n)
  | 0, _ => by simp [subN]
  | n + 1, h => by
    have ih := subN_take l c n (by omega)
    rw [subN_succ, take_snoc l (by omega)]
    split
    · exact ih.append (List.Sublist.refl _)
    · exact ih.trans (List.sublist_append_left _ _)
theorem subN_sub (l : List Nat) (c : Nat) : (subN l c l.length).Sublist l := by
  have := subN_take l c l.length (Nat.le_refl _)
  rwa [List.take_length] at this
theorem sub_take (l : List Nat) : ∀ n, n ≤ l.length → ∀ s, s.Sublist (l.take n) → ∃ c, c < 2 ^ n ∧ subN l c n = s
  | 0, _, s, h => ⟨0, by simp, by rw [List.take_zero] at h; rw [List.sublist_nil.1 h]; simp [subN]⟩
  | n + 1, hn, s, h => by
    rw [take_snoc l (by omega)] at h
    obtain ⟨a, b, rfl, ha, hb⟩ := List.sublist_append_iff.1 h
    obtain ⟨c, hc, he⟩ := sub_take l n (by omega) a ha
    have hb' : b = [] ∨ b = [l.getD n 0] := by
      cases hb with
      | cons _ h => exact .inl (List.sublist_nil.1 h)
      | cons_cons _ h => exact .inr (by rw [List.sublist_nil.1 h])
    rcases hb' with rfl | rfl
    · refine ⟨c, by rw [Nat.pow_succ]; omega, ?_⟩
      rw [subN_succ, if_neg (by rw [Nat.testBit_lt_two_pow hc]; simp), he, List.append_nil]
    · refine ⟨2 ^ n + c, by rw [Nat.pow_succ]; omega, ?_⟩
      rw [subN_succ, if_pos (by rw [Nat.testBit_two_pow_add_eq, Nat.testBit_lt_two_pow hc]; rfl), subN_add, he]
theorem sub_code (l s : List Nat) (h : s.Sublist l) : ∃ c, c < 2 ^ l.length ∧ subN l c l.length = s := sub_take l l.length (Nat.le_refl _) s (by rwa [List.take_length])

/-- Some part that lacks a term has the sum 0: by the term that it lacks; by codes. -/
def lackA (g l : List Nat) : Bool := (List.range l.length).any fun i => (subsN g (l.take i ++ l.drop (i + 1))).testBit 0
def lackB (g l : List Nat) : Bool := (List.range (2 ^ l.length - 2)).any fun j => decide (totN g (subN l (j + 1) l.length) = 0)
theorem lack_iff {g l : List Nat} (v : VG g) (hl : ∀ x ∈ l, x < ordN g) : lackA g l = true ↔ ∃ s, s.Sublist l ∧ s ≠ [] ∧ s.length < l.length ∧ totN g s = 0 := by
  unfold lackA
  rw [List.any_eq_true]
  constructor
  · rintro ⟨i, hi, hb⟩
    have hi := List.mem_range.1 hi
    have hsub := erase_sub l i
    obtain ⟨s, h1, h2, h3⟩ := (subs_sub v _ (fun x hx => hl x (hsub.subset hx)) 0).1 hb
    refine ⟨s, h1.trans hsub, h2, ?_, h3⟩
    have := h1.length_le
    have := erase_len l i hi
    omega
  · rintro ⟨s, h1, h2, h3, h4⟩
    obtain ⟨i, hi, hs⟩ := sub_erase h1 h3
    have hsub := erase_sub l i
    exact ⟨i, List.mem_range.2 hi, (subs_sub v _ (fun x hx => hl x (hsub.subset hx)) 0).2 ⟨s, hs, h2, h4⟩⟩
theorem lack_same {g l : List Nat} (v : VS g l) : lackA g l = lackB g l := by
  have hlen := v.len
  rw [Bool.eq_iff_iff, lack_iff v.grp v.each]
  unfold lackB
  rw [List.any_eq_true]
  have hpop : ∀ c, c < 2 ^ l.length → (subN l c l.length).length = pcn l.length c := fun c hc => by
    rw [subN_pop l hc (by omega)]
    exact pcn_small l.length 63 c hc (by omega)
  constructor
  · rintro ⟨s, h1, h2, h3, h4⟩
    obtain ⟨c, hc, rfl⟩ := sub_code l s h1
    have hp := hpop c hc
    have hc0 : c ≠ 0 := by
      rintro rfl
      exact h2 (List.length_eq_zero_iff.1 (by rw [hp, pcn_zero]))
    have hc1 : c + 1 ≠ 2 ^ l.length := fun e => by
      have := (pcn_full _ _ hc).2 e
      omega
    exact ⟨c - 1, List.mem_range.2 (by omega), decide_eq_true (by rw [show c - 1 + 1 = c by omega]; exact h4)⟩
  · rintro ⟨j, hj, hz⟩
    have hj := List.mem_range.1 hj
    have hc : j + 1 < 2 ^ l.length := by omega
    have hp := hpop (j + 1) hc
    refine ⟨subN l (j + 1) l.length, subN_sub l (j + 1), fun e => ?_, ?_, of_decide_eq_true hz⟩
    · rw [e, List.length_nil] at hp
      have := pcn_none _ _ hc hp.symm
      omega
    · have h1 := pcn_le l.length (j + 1)
      have h2 : pcn l.length (j + 1) ≠ l.length := fun e => by
        have := (pcn_full _ _ hc).1 e
        omega
      omega
theorem slice_nat (l : List Nat) (a b : Nat) : sliceA (ints (natsI l)) (a : Int) (b : Int) = ints (natsI ((l.take b).drop a)) := by
  simp only [sliceA, ints, natsI, Int.toNat_natCast, List.map_take, List.map_drop]
theorem ints_natsI_app (l m : List Nat) : ints (natsI l) ++ ints (natsI m) = ints (natsI (l ++ m)) := by
  simp only [ints, natsI, List.map_append]
end Go.Proofs.Ytphbclogflflmaa
