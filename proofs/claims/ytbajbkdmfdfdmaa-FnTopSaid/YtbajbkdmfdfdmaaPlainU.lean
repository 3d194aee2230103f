/-
  PlainU: functions that call themselves: more fuel changes nothing.
-/
import Derived.Test.YtbajbkdmfdfdmaaPlainH
set_option linter.unusedVariables false
set_option linter.unusedSimpArgs false
namespace Go.Proofs.Ytbajbkdmfdfdmaa
open Go Ev

section
variable {R A B S D : Type}
/-- What the first comes to, the second comes to. -/
def Le (a b : Option R) : Prop := ∀ r, a = some r → b = some r
theorem Le.same {a : Option R} : Le a a := fun _ h => h
theorem Le.no {b : Option R} : Le none b := fun _ h => by cases h
theorem Le.br {t : Bool} {a b a' b' : Option R} (h : Le a a') (h' : Le b b') : Le (Ev.br t a b) (Ev.br t a' b') := by cases t <;> assumption
theorem Le.bo {o o' : Option A} {d : A} {k k' : A → Option R} (h : Le o o') (hk : ∀ a, Le (k a) (k' a)) : Le (Ev.bo o d k) (Ev.bo o' d k') := by
  cases o with
  | none => exact Le.no
  | some x => rw [h x rfl]; exact hk x
theorem Le.bl1 {o o' : Option (En A B)} {d : A} {k k' : A → Option R} (h : Le o o') (hk : ∀ a, Le (k a) (k' a)) : Le (Ev.bl1 o d k) (Ev.bl1 o' d k') := by
  cases o with
  | none => exact Le.no
  | some x =>
    rw [h x rfl]
    cases x with
    | one a => exact hk a
    | two b => exact Le.no
theorem Le.bl {o o' : Option (En A B)} {d : A} {e : B} {k k' : A → Option R} {j j' : B → Option R} (h : Le o o') (hk : ∀ a, Le (k a) (k' a)) (hj : ∀ b, Le (j b) (j' b)) : Le (Ev.bl o d e k j) (Ev.bl o' d e k' j') := by
  cases o with
  | none => exact Le.no
  | some x =>
    rw [h x rfl]
    cases x with
    | one a => exact hk a
    | two b => exact hj b
theorem loopN_le {rd rd' : S → Option (Ro S A B)} (h : ∀ s, Le (rd s) (rd' s)) : ∀ n s, Le (loopN rd n s) (loopN rd' n s)
  | 0, _ => Le.no
  | n + 1, s => by
    unfold loopN
    cases hs : rd s with
    | none => exact Le.no
    | some x =>
      rw [h s x hs]
      cases x with
      | again s' => exact loopN_le h n s'
      | one a => exact Le.same
      | two b => exact Le.same
theorem Le.loop {rd rd' : S → Option (Ro S A B)} {s : S} (h : ∀ s, Le (rd s) (rd' s)) : Le (loopL rd s) (loopL rd' s) := fun r hr => by
  obtain ⟨n, hn⟩ := loopL_some hr
  exact loopL_of (loopN_le h n s r hn)
theorem le_fuel {F : Nat → D → Option R} (h : ∀ n a, Le (F n a) (F (n + 1) a)) {n m : Nat} (hm : n ≤ m) (a : D) : Le (F n a) (F m a) := by
  obtain ⟨d, rfl⟩ : ∃ d, m = n + d := ⟨m - n, by omega⟩
  clear hm
  induction d with
  | zero => exact Le.same
  | succ d ih => exact fun r hr => h _ a r (ih r hr)
theorem limF_le {F : Nat → D → Option R} (h : ∀ n a, Le (F n a) (F (n + 1) a)) {n : Nat} {a : D} {r : R} (hr : F n a = some r) : limF F a = some r :=
  limF_of hr fun m r' hm => by
    have h1 := le_fuel h (Nat.le_max_left n m) a r hr
    have h2 := le_fuel h (Nat.le_max_right n m) a r' hm
    rw [h1] at h2
    exact (Option.some.inj h2).symm
end
end Go.Proofs.Ytbajbkdmfdfdmaa
