/-
  VFuel: functions with a bound on all rounds.
-/
import Derived.Test.YtlnhommmmajllaaGreatVGen
set_option linter.unusedVariables false
namespace Go.Proofs.YtlnhommmmajllaaGreat.Ev
open Go
structure Le {A : Type} (o o' : Option A) : Prop where
  of : ∀ r, o = some r → o' = some r
def loopQ {S A B : Type} (q : Nat) (rd : S → Option (Ro S A B)) (s : S) : Option (En A B) := loopN rd q s
def limQ {A R : Type} (q : Nat) (F : Nat → A → Option R) (a : A) : Option R := F q a
section
variable {A B S R : Type}
theorem Le.refl (o : Option A) : Le o o := ⟨fun _ h => h⟩
theorem Le.none (o : Option A) : Le none o := ⟨fun _ h => by cases h⟩
theorem Le.br {t : Bool} {x y x' y' : Option A} (h1 : Le x x') (h2 : Le y y') : Le (Ev.br t x y) (Ev.br t x' y') := by
  cases t
  · exact h2
  · exact h1
theorem Le.bo {o o' : Option A} {d : A} {k k' : A → Option R} (h1 : Le o o') (h2 : ∀ a, Le (k a) (k' a)) : Le (Ev.bo o d k) (Ev.bo o' d k') := by
  cases o with
  | none => exact Le.none _
  | some a => rw [h1.of a rfl]; exact h2 a
theorem Le.bl1 {o o' : Option (En A B)} {d : A} {k k' : A → Option R} (h1 : Le o o') (h2 : ∀ a, Le (k a) (k' a)) : Le (Ev.bl1 o d k) (Ev.bl1 o' d k') := by
  cases o with
  | none => exact Le.none _
  | some a =>
    rw [h1.of a rfl]
    cases a with
    | one a => exact h2 a
    | two b => exact Le.none _
theorem Le.bl {o o' : Option (En A B)} {d : A} {e : B} {k k' : A → Option R} {l l' : B → Option R} (h1 : Le o o') (h2 : ∀ a, Le (k a) (k' a)) (h3 : ∀ b, Le (l b) (l' b)) : Le (Ev.bl o d e k l) (Ev.bl o' d e k' l') := by
  cases o with
  | none => exact Le.none _
  | some a =>
    rw [h1.of a rfl]
    cases a with
    | one a => exact h2 a
    | two b => exact h3 b
theorem loopN_le {rd rd' : S → Option (Ro S A B)} (h : ∀ s, Le (rd s) (rd' s)) : ∀ (n : Nat) (s : S), Le (loopN rd n s) (loopN rd' n s)
  | 0, _ => Le.none _
  | n + 1, s => by
    refine ⟨fun r hr => ?_⟩
    simp only [loopN] at hr ⊢
    cases hs : rd s with
    | none => rw [hs] at hr; cases hr
    | some x =>
      rw [hs] at hr
      rw [(h s).of x hs]
      cases x with
      | again s' => exact (loopN_le h n s').of r hr
      | one a => exact hr
      | two b => exact hr
theorem Le.loop {q : Nat} {rd rd' : S → Option (Ro S A B)} {s : S} (h : ∀ s, Le (rd s) (rd' s)) : Le (loopQ q rd s) (loopL rd' s) := ⟨fun r hr => loopL_of ((loopN_le h q s).of r hr)⟩
theorem Le.loopU {rd rd' : S → Option (Ro S A B)} {s : S} (h : ∀ s, Le (rd s) (rd' s)) : Le (loopL rd s) (loopL rd' s) := ⟨fun r hr => by
  obtain ⟨n, hn⟩ := loopL_some hr
  exact loopL_of ((loopN_le h n s).of r hn)⟩
theorem up_all {F : Nat → A → Option R} (h : ∀ n a, Le (F n a) (F (n + 1) a)) : ∀ (k n : Nat) a, Le (F n a) (F (n + k) a)
  | 0, n, a => Le.refl _
  | k + 1, n, a => ⟨fun r hr => (h (n + k) a).of r ((up_all h k n a).of r hr)⟩
theorem Le.lim {q : Nat} {F G : Nat → A → Option R} {a : A} (hu : ∀ n a, Le (F n a) (F (n + 1) a)) (h : ∀ n a, Le (G n a) (F n a)) : Le (limQ q G a) (limF F a) := by
  refine ⟨fun r hr => ?_⟩
  have h1 : F q a = some r := (h q a).of r hr
  refine limF_of h1 fun m r' hm => ?_
  rcases Nat.le_total m q with hl | hl
  · have := (up_all hu (q - m) m a).of r' hm
    rw [show m + (q - m) = q by omega, h1] at this
    exact (Option.some.inj this).symm
  · have := (up_all hu (m - q) q a).of r h1
    rw [show q + (m - q) = m by omega, hm] at this
    exact Option.some.inj this
end
end Go.Proofs.YtlnhommmmajllaaGreat.Ev
