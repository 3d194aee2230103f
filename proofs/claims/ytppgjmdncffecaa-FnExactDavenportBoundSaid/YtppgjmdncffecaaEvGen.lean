/-
  EvGen: the words in which the printed functions are said (calls, loops), and the rules by which they are shown to be what the program does.
-/
import Derived.Test.YtppgjmdncffecaaEvTab
namespace Go.Proofs.Ytppgjmdncffecaa.Ev
open Go

/-- What a round comes to: the loop's head again, or one of two ends. -/
inductive Ro (S A B : Type) where
  | again (s : S)
  | one (a : A)
  | two (b : B)
inductive En (A B : Type) where
  | one (a : A)
  | two (b : B)

section
variable {S A B R : Type}
def Ro.el (kn : S → Option R) (k1 : A → Option R) (k2 : B → Option R) : Ro S A B → Option R
  | .again s => kn s
  | .one a => k1 a
  | .two b => k2 b
theorem Ro.el_again (kn : S → Option R) (k1 : A → Option R) (k2 : B → Option R) (s : S) : Ro.el kn k1 k2 (.again s) = kn s := rfl
theorem Ro.el_one (kn : S → Option R) (k1 : A → Option R) (k2 : B → Option R) (a : A) : Ro.el kn k1 k2 (.one a) = k1 a := rfl
theorem Ro.el_two (kn : S → Option R) (k1 : A → Option R) (k2 : B → Option R) (b : B) : Ro.el kn k1 k2 (.two b) = k2 b := rfl

def loopN (rd : S → Option (Ro S A B)) : Nat → S → Option (En A B)
  | 0, _ => none
  | n + 1, s => match rd s with
    | some (.again s') => loopN rd n s'
    | some (.one a) => some (.one a)
    | some (.two b) => some (.two b)
    | none => none

theorem loopN_mono {rd : S → Option (Ro S A B)} : ∀ {n m : Nat} {s : S} {r : En A B}, loopN rd n s = some r → n ≤ m → loopN rd m s = some r
  | 0, _, _, _, h, _ => by cases h
  | n + 1, 0, _, _, _, hm => by omega
  | n + 1, m + 1, s, r, h, hm => by
    simp only [loopN] at h ⊢
    split at h
    · exact loopN_mono h (by omega)
    · exact h
    · exact h
    · cases h

open Classical in
/-- What a loop comes to, where it comes to an end. -/
noncomputable def loopL (rd : S → Option (Ro S A B)) (s : S) : Option (En A B) := if h : ∃ r n, loopN rd n s = some r then some h.choose else none

theorem loopL_of {rd : S → Option (Ro S A B)} {n : Nat} {s : S} {r : En A B} (h : loopN rd n s = some r) : loopL rd s = some r := by
  have hex : ∃ r n, loopN rd n s = some r := ⟨r, n, h⟩
  unfold loopL
  rw [dif_pos hex]
  obtain ⟨m, hm⟩ := hex.choose_spec
  have h1 := loopN_mono hm (Nat.le_max_left m n)
  have h2 := loopN_mono h (Nat.le_max_right m n)
  rw [h1] at h2
  exact h2
theorem loopL_some {rd : S → Option (Ro S A B)} {s : S} {r : En A B} (h : loopL rd s = some r) : ∃ n, loopN rd n s = some r := by
  unfold loopL at h
  split at h
  · rename_i hex
    have := hex.choose_spec
    simp only [Option.some.injEq] at h
    rw [h] at this
    exact this
  · cases h
theorem loopL_again {rd : S → Option (Ro S A B)} {s s' : S} (h : rd s = some (.again s')) : loopL rd s = loopL rd s' := by
  cases h' : loopL rd s' with
  | some r =>
    obtain ⟨n, hn⟩ := loopL_some h'
    exact loopL_of (n := n + 1) (by simp only [loopN, h, hn])
  | none =>
    cases h2 : loopL rd s with
    | none => rfl
    | some r =>
      obtain ⟨n, hn⟩ := loopL_some h2
      cases n with
      | zero => cases hn
      | succ n =>
        simp only [loopN, h] at hn
        rw [loopL_of hn] at h'
        cases h'
theorem loopL_one {rd : S → Option (Ro S A B)} {s : S} {a : A} (h : rd s = some (.one a)) : loopL rd s = some (.one a) := loopL_of (n := 1) (by simp only [loopN, h])
theorem loopL_two {rd : S → Option (Ro S A B)} {s : S} {b : B} (h : rd s = some (.two b)) : loopL rd s = some (.two b) := loopL_of (n := 1) (by simp only [loopN, h])

/-! ### Calls and loops in a tree -/
def bo (o : Option A) (d : A) (k : A → Option R) : Option R := br o.isSome (k (o.getD d)) none
def isOne : Option (En A B) → Bool
  | some (.one _) => true
  | _ => false
def getOne (d : A) : Option (En A B) → A
  | some (.one a) => a
  | _ => d
def getTwo (d : B) : Option (En A B) → B
  | some (.two b) => b
  | _ => d
def bl1 (o : Option (En A B)) (d : A) (k : A → Option R) : Option R := br (isOne o) (k (getOne d o)) none
def bl (o : Option (En A B)) (d : A) (e : B) (k1 : A → Option R) (k2 : B → Option R) : Option R := br o.isSome (br (isOne o) (k1 (getOne d o)) (k2 (getTwo e o))) none

theorem bo_some (a d : A) (k : A → Option R) : bo (some a) d k = k a := rfl
theorem bl1_one (a d : A) (k : A → Option R) : bl1 (B := B) (some (.one a)) d k = k a := rfl
theorem bl_one (a d : A) (e : B) (k1 : A → Option R) (k2 : B → Option R) : bl (some (.one a)) d e k1 k2 = k1 a := rfl
theorem bl_two (b : B) (d : A) (e : B) (k1 : A → Option R) (k2 : B → Option R) : bl (some (.two b)) d e k1 k2 = k2 b := rfl

theorem brB {T : Type} (t : Bool) (x y : Option T) (k : T → Option R) : (br t x y).bind k = br t (x.bind k) (y.bind k) := by cases t <;> rfl
theorem boB {T : Type} (o : Option A) (d : A) (f : A → Option T) (k : T → Option R) : (bo o d f).bind k = bo o d fun a => (f a).bind k := by cases o <;> rfl
theorem bl1B {T : Type} (o : Option (En A B)) (d : A) (f : A → Option T) (k : T → Option R) : (bl1 o d f).bind k = bl1 o d fun a => (f a).bind k := by unfold bl1; rw [brB]; rfl
theorem blB {T : Type} (o : Option (En A B)) (d : A) (e : B) (f : A → Option T) (g : B → Option T) (k : T → Option R) : (bl o d e f g).bind k = bl o d e (fun a => (f a).bind k) (fun b => (g b).bind k) := by unfold bl; rw [brB, brB]; rfl
theorem someB {T : Type} (x : T) (k : T → Option R) : (some x).bind k = k x := rfl
theorem noneB {T : Type} (k : T → Option R) : (none : Option T).bind k = none := rfl
end

/-! ### Frames by their shape -/
inductive Sh where
  | u
  | und
  | int (k : IntKind)
  | boo
  | str
  | sl
  | gr
  | bp
  | fr (e : TypeId)
  | own (e : TypeId)
  | al (s : Nat)
inductive Vl where
  | i (x : Int)
  | b (x : Bool)
  | s (x : ByteArray)
  | l (L : List Sc)
def dec : List Sh → List AV → Option (List Vl)
  | [], [] => some []
  | h :: hs, v :: vs => match h, v with
    | .u, .u => dec hs vs
    | .und, .und => dec hs vs
    | .int k, .sc (.n k' x) => match decide (k = k') with
      | true => (dec hs vs).map (.i x :: ·)
      | false => none
    | .boo, .sc (.b x) => (dec hs vs).map (.b x :: ·)
    | .str, .sc (.s x) => (dec hs vs).map (.s x :: ·)
    | .sl, .sl L => (dec hs vs).map (.l L :: ·)
    | .gr, .gr L => (dec hs vs).map (.l L :: ·)
    | .bp, .bp L => (dec hs vs).map (.l L :: ·)
    | .fr e, .fr e' L => match Nat.beq e e' with
      | true => (dec hs vs).map (.l L :: ·)
      | false => none
    | .own e, .own e' L => match Nat.beq e e' with
      | true => (dec hs vs).map (.l L :: ·)
      | false => none
    | .al s, .al s' => match Nat.beq s s' with
      | true => dec hs vs
      | false => none
    | _, _ => none
  | _, _ => none
def enc : List Sh → List Vl → List AV
  | .u :: hs, vs => .u :: enc hs vs
  | .und :: hs, vs => .und :: enc hs vs
  | .al s :: hs, vs => .al s :: enc hs vs
  | .int k :: hs, .i x :: vs => .sc (.n k x) :: enc hs vs
  | .boo :: hs, .b x :: vs => .sc (.b x) :: enc hs vs
  | .str :: hs, .s x :: vs => .sc (.s x) :: enc hs vs
  | .sl :: hs, .l L :: vs => .sl L :: enc hs vs
  | .gr :: hs, .l L :: vs => .gr L :: enc hs vs
  | .bp :: hs, .l L :: vs => .bp L :: enc hs vs
  | .fr e :: hs, .l L :: vs => .fr e L :: enc hs vs
  | .own e :: hs, .l L :: vs => .own e L :: enc hs vs
  | _, _ => []
theorem dec_enc : ∀ {hs : List Sh} {σ : List AV} {vs : List Vl}, dec hs σ = some vs → enc hs vs = σ
  | [], [], vs, h => by simp only [dec, Option.some.injEq] at h; subst h; rfl
  | [], _ :: _, _, h => by simp [dec] at h
  | _ :: _, [], _, h => by simp [dec] at h
  | h0 :: hs, v :: σ, vs, h => by
    have map : ∀ {f : List Vl → List Vl}, (dec hs σ).map f = some vs → ∃ r, vs = f r ∧ enc hs r = σ := fun {f} h => by
      obtain ⟨r, h1, h2⟩ := Option.map_eq_some_iff.1 h
      exact ⟨r, h2.symm, dec_enc h1⟩
    unfold dec at h
    split at h
    · simp only [enc, dec_enc h]
    · simp only [enc, dec_enc h]
    · split at h
      · rename_i hk
        obtain ⟨r, rfl, hr⟩ := map h
        simp only [enc, hr, of_decide_eq_true hk]
      · cases h
    · obtain ⟨r, rfl, hr⟩ := map h
      simp only [enc, hr]
    · obtain ⟨r, rfl, hr⟩ := map h
      simp only [enc, hr]
    · obtain ⟨r, rfl, hr⟩ := map h
      simp only [enc, hr]
    · obtain ⟨r, rfl, hr⟩ := map h
      simp only [enc, hr]
    · obtain ⟨r, rfl, hr⟩ := map h
      simp only [enc, hr]
    · split at h
      · rename_i hk
        obtain ⟨r, rfl, hr⟩ := map h
        simp only [enc, hr, Nat.eq_of_beq_eq_true hk]
      · cases h
    · split at h
      · rename_i hk
        obtain ⟨r, rfl, hr⟩ := map h
        simp only [enc, hr, Nat.eq_of_beq_eq_true hk]
      · cases h
    · split at h
      · rename_i hk
        simp only [enc, dec_enc h, Nat.eq_of_beq_eq_true hk]
      · cases h
    · cases h

/-! ### Tables -/
def addC (n : FuncId) (c : List AV → Option (Bool × List AV)) (M : Calling) : Calling := fun f args => match Nat.beq f n with
  | true => c args
  | false => M f args
def addL (n : Nat) (t : List AV → Option (Bool × Bool × (X × List AV) × (X × List AV))) (T : LTab) : LTab := fun id σ => match Nat.beq id n with
  | true => t σ
  | false => T id σ

section
variable {S : Setup}
def CTrue (S : Setup) (n : FuncId) (c : List AV → Option (Bool × List AV)) : Prop := ∀ args rs, c args = some (true, rs) → CL S n args = some rs
theorem addC_true {n : FuncId} {c : List AV → Option (Bool × List AV)} {M : Calling} (hc : CTrue S n c) (hM : CallsTrue S M) : CallsTrue S (addC n c M) := by
  intro f args rs h
  unfold addC at h
  split at h
  · rename_i hb
    rw [Nat.eq_of_beq_eq_true hb]
    exact hc args rs h
  · exact hM f args rs h
def TTrue (S : Setup) (f : FuncId) (fn : Func) (id : Nat) (t : List AV → Option (Bool × Bool × (X × List AV) × (X × List AV))) : Prop := ∀ σ p r r', t σ = some (true, p, r, r') → LP S f id (bodyOf fn id) σ = some (if p then r else r')
theorem addL_true {f : FuncId} {fn : Func} {n : Nat} {t : List AV → Option (Bool × Bool × (X × List AV) × (X × List AV))} {T : LTab} (ht : TTrue S f fn n t) (hT : LTrue S f fn T) : LTrue S f fn (addL n t T) := by
  intro id σ p r r' h
  unfold addL at h
  split at h
  · rename_i hb
    rw [Nat.eq_of_beq_eq_true hb]
    exact ht σ p r r' h
  · exact hT id σ p r r' h

/-- A function by its tree. -/
theorem fn_true {f : FuncId} {fn : Func} {M : Calling} {T : LTab} {args : List AV} {V : Type} {F : Option V} {Fk : (V → Option (List AV)) → Option (List AV)} {enc : V → List AV} {r : V} (hf : S.P.funcs[f]? = some fn) (he : S.ext f args = none) (hM : CallsTrue S M) (hL : LTrue S f fn T) (hn : loopsOnce fn = true)
    (hb : runFn S.E M (asL T) (S.kl f) fn args = Fk fun r => some (enc r)) (hp : ∀ k, Fk k = F.bind k) (h : F = some r) : CL S f args = some (enc r) :=
  CL_body hf he hM hL hn (by rw [hb, hp, h]; rfl)

variable {Q A B : Type}
def enX (f1 : A → X × List AV) (f2 : B → X × List AV) : En A B → X × List AV
  | .one a => f1 a
  | .two b => f2 b
/-- A loop by its round. -/
theorem loop_true {f : FuncId} {fn : Func} {id : Nat} {M : Calling} {T : LTab} {rd : Q → Option (Ro Q A B)} {fr : Q → List AV} {f1 : A → X × List AV} {f2 : B → X × List AV} (hM : CallsTrue S M) (hL : LTrue S f fn T) (hn : loopsOnce fn = true)
    (hx1 : ∀ a, (f1 a).1 ≠ .norm) (hx2 : ∀ b, (f2 b).1 ≠ .norm)
    (hr : ∀ s, EC S.E M (asL T) (S.kl f) id (bodyOf fn id) (fr s) (done (S.kl f id)) = (rd s).bind (Ro.el (fun s' => some (.norm, fr s')) (fun a => some (f1 a)) (fun b => some (f2 b)))) :
    ∀ s r, loopL rd s = some r → LP S f id (bodyOf fn id) (fr s) = some (enX f1 f2 r) := by
  have out : ∀ z : X × List AV, z.1 ≠ .norm → nextL S f id (bodyOf fn id) z = some z := by
    rintro ⟨x, σ⟩ hz
    cases x with
    | norm => exact absurd rfl hz
    | ret => rfl
    | out i => rfl
  intro s r h
  obtain ⟨n, hn'⟩ := loopL_some h
  clear h
  induction n generalizing s with
  | zero => cases hn'
  | succ n ih =>
    simp only [loopN] at hn'
    have h1 := hr s
    split at hn'
    · rename_i s' hs
      rw [hs] at h1
      exact LP_round hM hL hn h1 (ih s' hn')
    · rename_i a hs
      rw [hs] at h1
      simp only [Option.some.injEq] at hn'
      subst hn'
      exact LP_round hM hL hn h1 (out _ (hx1 a))
    · rename_i b hs
      rw [hs] at h1
      simp only [Option.some.injEq] at hn'
      subst hn'
      exact LP_round hM hL hn h1 (out _ (hx2 b))
    · cases hn'

theorem isOne_get {o : Option (En A B)} (d : A) (h : isOne o = true) : o = some (.one (getOne d o)) := by
  cases o with
  | none => cases h
  | some e => cases e with
    | one a => rfl
    | two b => cases h
/-- The table's row of a call. -/
theorem rowC {n : FuncId} {args rs : List AV} {V : Type} {F : Option V} {d : V} {en : V → List AV} (h : ∀ r, F = some r → CL S n args = some (en r)) (ht : some (F.isSome, en (F.getD d)) = some (true, rs)) : CL S n args = some rs := by
  simp only [Option.some.injEq, Prod.mk.injEq] at ht
  obtain ⟨h1, h2⟩ := ht
  cases hF : F with
  | none => rw [hF] at h1; cases h1
  | some r => rw [hF] at h2; rw [h r hF, ← h2]; rfl
/-- The table's row of a loop with one end. -/
theorem row1 {f : FuncId} {fn : Func} {id : Nat} {rd : Q → Option (Ro Q A B)} {s : Q} {d : A} {σ : List AV} {f1 : A → X × List AV} {f2 : B → X × List AV} {p : Bool} {r r' r0 : X × List AV}
    (h : ∀ r, loopL rd s = some r → LP S f id (bodyOf fn id) σ = some (enX f1 f2 r))
    (ht : some (isOne (loopL rd s), true, f1 (getOne d (loopL rd s)), r0) = some (true, p, r, r')) : LP S f id (bodyOf fn id) σ = some (if p then r else r') := by
  simp only [Option.some.injEq, Prod.mk.injEq] at ht
  obtain ⟨h1, h2, h3, h4⟩ := ht
  have := h _ (isOne_get d h1)
  rw [← h2, if_pos rfl, ← h3]
  exact this
theorem row2 {f : FuncId} {fn : Func} {id : Nat} {rd : Q → Option (Ro Q A B)} {s : Q} {d : A} {e : B} {σ : List AV} {f1 : A → X × List AV} {f2 : B → X × List AV} {p : Bool} {r r' : X × List AV}
    (h : ∀ r, loopL rd s = some r → LP S f id (bodyOf fn id) σ = some (enX f1 f2 r))
    (ht : some ((loopL rd s).isSome, isOne (loopL rd s), f1 (getOne d (loopL rd s)), f2 (getTwo e (loopL rd s))) = some (true, p, r, r')) : LP S f id (bodyOf fn id) σ = some (if p then r else r') := by
  simp only [Option.some.injEq, Prod.mk.injEq] at ht
  obtain ⟨h1, h2, h3, h4⟩ := ht
  cases ho : loopL rd s with
  | none => rw [ho] at h1; cases h1
  | some x =>
    rw [ho] at h2 h3 h4
    rw [← h2, ← h3, ← h4]
    cases x with
    | one a => exact h _ ho
    | two b => exact h _ ho
end

/-- May 'toGroup' be asked? -/
def grOk (L : List Sc) : Bool := allI L && decide (L.length ≤ lim)
def chAt (x : ByteArray) (i : Int) : Int := (x.data.toList.getD i.toNat 0).toNat
def subS (x : ByteArray) (l h : Int) : ByteArray := x.extract l.toNat h.toNat
/-! ### More words at int -/
/-- Numbers of an int. -/
def In64 (x : Int) : Prop := -9223372036854775808 ≤ x ∧ x ≤ 9223372036854775807
def All64 (L : List Int) : Prop := (∀ x ∈ L, In64 x) ∧ L.length ≤ 9223372036854775807
/-- Is the cell an int's? -/
def kAt (L : List Sc) (i : Nat) : Bool := sameKind (.n .i64 0) (L.getD i (.n .i64 0))
def atN (L : List Sc) (i : Nat) : Int := numOf (L.getD i (.n .i64 0))
theorem kAt_ints (L : List Int) (i : Nat) : kAt (ints L) i = true := by
  unfold kAt ints
  simp only [List.getD, List.getElem?_map]
  cases L[i]? <;> rfl
theorem atN_ints (L : List Int) (i : Nat) : atN (ints L) i = L.getD i 0 := by
  unfold atN ints
  simp only [List.getD, List.getElem?_map]
  cases L[i]? <;> rfl
end Go.Proofs.Ytppgjmdncffecaa.Ev
