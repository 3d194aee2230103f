/-
  PlainR: ShortestZero.
-/
import Derived.Test.YtphbclogflflmaaPlainQ
set_option linter.unusedVariables false
set_option linter.unusedSimpArgs false
namespace Go.Proofs.Ytphbclogflflmaa
open Go Ev

def zAt (g l : List Nat) (j : Nat) : Bool := decide (totN g (subN l (j + 1) l.length) = 0)
def bestF (g l : List Nat) (b : List Nat) (j : Nat) : List Nat := if zAt g l j then (if b.length = 0 then subN l (j + 1) l.length else if (subN l (j + 1) l.length).length < b.length then subN l (j + 1) l.length else b) else b
def bestN (g l : List Nat) (j : Nat) : List Nat := (List.range j).foldl (bestF g l) []
theorem bestN_succ (g l : List Nat) (j : Nat) : bestN g l (j + 1) = bestF g l (bestN g l j) j := by
  unfold bestN
  rw [List.range_succ, List.foldl_append]
  rfl
theorem subN_pop (l : List Nat) {c : Nat} (h : c < 2 ^ l.length) (hn : l.length ≤ 63) : (subN l c l.length).length = popN c := by
  unfold subN popN
  rw [List.length_map, filter_len, pcn_smallM l.length 63 c h hn]
def codeOf (g l : List Nat) (k m : Nat) : Option Nat := (List.range m).find? fun j => goodZ g l k (j + 1)
theorem pop_pos {c : Nat} (h : c ≠ 0) (hc : c < 9223372036854775808) : popN c ≠ 0 := fun e => by
  have : ∀ (n b : Nat), b < 2 ^ n → pcn n b = 0 → b = 0 := by
    intro n
    induction n with
    | zero => intro b h _; simpa using h
    | succ n ih =>
      intro b h h0
      have h0 : b % 2 + pcn n (b / 2) = 0 := h0
      rw [Nat.pow_succ] at h
      have := ih (b / 2) (by omega) (by omega)
      omega
  exact h (this 63 c (by omega) e)
/-- What the best is, as far as it has been looked for. -/
theorem best_spec (g l : List Nat) (hn : l.length ≤ 12) : ∀ j, j < 2 ^ l.length → ((∀ i, i < j → zAt g l i = false) ∧ bestN g l j = []) ∨
    ∃ i, i < j ∧ bestN g l j = subN l (i + 1) l.length ∧ (∀ i', i' < j → zAt g l i' = true → popN (i + 1) ≤ popN (i' + 1)) ∧ zAt g l i = true ∧ ∀ i', i' < i → ¬ (zAt g l i' = true ∧ popN (i' + 1) = popN (i + 1))
  | 0, _ => .inl ⟨fun i hi => absurd hi (by omega), rfl⟩
  | j + 1, hj => by
    have h12 := code_lt hn hj
    have hp : ∀ i, i ≤ j → (subN l (i + 1) l.length).length = popN (i + 1) := fun i hi => subN_pop l (by omega) (by omega)
    have hpos : ∀ i, i ≤ j → popN (i + 1) ≠ 0 := fun i hi => pop_pos (by omega) (by omega)
    rw [bestN_succ]
    unfold bestF
    rcases best_spec g l hn j (by omega) with ⟨h1, h2⟩ | ⟨i, h1, h2, h3, h4, h5⟩
    · cases hz : zAt g l j with
      | false =>
        refine .inl ⟨fun i hi => ?_, by rw [h2]; rfl⟩
        rcases Nat.lt_or_ge i j with h | h
        · exact h1 i h
        · rw [show i = j by omega]; exact hz
      | true =>
        refine .inr ⟨j, by omega, by rw [h2]; rfl, fun i' hi' hz' => ?_, hz, fun i' hi' hh => ?_⟩
        · rcases Nat.lt_or_ge i' j with h | h
          · rw [h1 i' h] at hz'; cases hz'
          · rw [show i' = j by omega]; exact Nat.le_refl _
        · rw [h1 i' hi'] at hh; cases hh.1
    · have hb : (bestN g l j).length = popN (i + 1) := by rw [h2]; exact hp i (by omega)
      have hb0 : ¬ ((bestN g l j).length = 0) := by rw [hb]; exact hpos i (by omega)
      cases hz : zAt g l j with
      | false =>
        refine .inr ⟨i, by omega, by rw [← h2]; rfl, fun i' hi' hz' => ?_, h4, h5⟩
        rcases Nat.lt_or_ge i' j with h | h
        · exact h3 i' h hz'
        · rw [show i' = j by omega, hz] at hz'; cases hz'
      | true =>
        rw [if_pos rfl, if_neg hb0, hb, hp j (Nat.le_refl _)]
        by_cases hlt : popN (j + 1) < popN (i + 1)
        · rw [if_pos hlt]
          refine .inr ⟨j, by omega, rfl, fun i' hi' hz' => ?_, hz, fun i' hi' hh => ?_⟩
          · rcases Nat.lt_or_ge i' j with h | h
            · have := h3 i' h hz'; omega
            · rw [show i' = j by omega]; exact Nat.le_refl _
          · have := h3 i' hi' hh.1; omega
        · rw [if_neg hlt]
          refine .inr ⟨i, by omega, h2, fun i' hi' hz' => ?_, h4, h5⟩
          rcases Nat.lt_or_ge i' j with h | h
          · exact h3 i' h hz'
          · rw [show i' = j by omega]; omega
theorem goodZ_iff (g l : List Nat) (k j : Nat) : goodZ g l k (j + 1) = true ↔ popN (j + 1) = k ∧ zAt g l j = true := by
  unfold goodZ zAt
  simp
end Go.Proofs.Ytphbclogflflmaa
