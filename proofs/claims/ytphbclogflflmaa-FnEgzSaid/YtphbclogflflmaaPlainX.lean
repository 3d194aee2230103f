/-
  PlainX: LongestZeroFree, DavenportConstant.
-/
import Derived.Test.YtphbclogflflmaaPlainW
set_option linter.unusedVariables false
set_option linter.unusedSimpArgs false
namespace Go.Proofs.Ytphbclogflflmaa
open Go Ev

theorem fold_congr {α β : Type} {f f' : β → α → β} : ∀ {l : List α} {t : β}, (∀ t x, x ∈ l → f t x = f' t x) → l.foldl f t = l.foldl f' t
  | [], _, _ => rfl
  | x :: l, t, h => by
    rw [List.foldl_cons, List.foldl_cons, h t x (by simp)]
    exact fold_congr fun t y hy => h t y (by simp [hy])
/-- The first of the longest. -/
def lbF (t l : List Nat) : List Nat := if t.length < l.length then l else t
theorem lbF_assoc (a b c : List Nat) : lbF (lbF a b) c = lbF a (lbF b c) := by
  unfold lbF
  by_cases h1 : a.length < b.length <;> by_cases h2 : b.length < c.length <;> by_cases h3 : a.length < c.length <;> simp [h1, h2, h3] <;> omega
theorem lbF_fold : ∀ (L : List (List Nat)) (t c : List Nat), L.foldl lbF (lbF t c) = lbF t (L.foldl lbF c)
  | [], t, c => rfl
  | d :: L, t, c => by rw [List.foldl_cons, List.foldl_cons, lbF_assoc, lbF_fold L t (lbF c d)]
theorem lb_dec (t l : List Nat) : decide (((ints (natsI l)).length : Int) > ((ints (natsI t)).length : Int)) = decide (t.length < l.length) := by
  simp only [ints_length, natsI_length]
  by_cases h : t.length < l.length
  · rw [decide_eq_true h]; exact decide_eq_true (by omega)
  · rw [decide_eq_false h]; exact decide_eq_false (by omega)
theorem zfT_bound {g : List Nat} (v : VG g) : ∀ (n : Nat) (l : List Nat) (s a : Nat), s < 2 ^ ordN g → l.length ≤ s → ∀ m ∈ zfT g n l s a, m.length ≤ 2 ^ ordN g
  | 0, _, _, _, _, _, m, h => by cases h
  | n + 1, l, s, a, hs, hl, m, h => by
    rcases List.mem_cons.1 h with rfl | h
    · omega
    · obtain ⟨x, hx, hm⟩ := List.mem_flatMap.1 h
      obtain ⟨_, h2, h3⟩ := mem_kidsN hx
      have := nextN_grows v hs h2 h3
      exact zfT_bound v n _ _ _ (nextN_lt v hs h2) (by rw [List.length_append, List.length_singleton]; omega) m hm
theorem fold_lb_mem : ∀ (L : List (List Nat)) (t : List Nat), L.foldl lbF t = t ∨ L.foldl lbF t ∈ L
  | [], t => .inl rfl
  | m :: L, t => by
    rw [List.foldl_cons]
    rcases fold_lb_mem L (lbF t m) with h | h
    · unfold lbF at h ⊢
      by_cases e : t.length < m.length
      · rw [if_pos e] at h ⊢; exact .inr (by rw [h]; simp)
      · rw [if_neg e] at h ⊢; exact .inl h
    · exact .inr (by simp [h])
end Go.Proofs.Ytphbclogflflmaa
