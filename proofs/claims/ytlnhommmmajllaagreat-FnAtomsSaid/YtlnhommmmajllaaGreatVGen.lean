/-
  VGen: the words in which the printed functions are said (calls, loops), and the rules by which they are shown to be what the program does.
-/
import Derived.Test.YtlnhommmmajllaaGreatVTab
set_option linter.unusedVariables false
namespace Go.Proofs.YtlnhommmmajllaaGreat.Ev
open Go
inductive Ro (S A B : Type) where
  | again (s : S)
  | one (a : A)
  | two (b : B)
inductive En (A B : Type) where
  | one (a : A)
  | two (b : B)
section
variable {S A B R : Type}
def Ro.el (kn : S → Option R) (k1 : A → Option R) (k2 : B → Option R) : Ro S A B → Option R
  | .again s => kn s
  | .one a => k1 a
  | .two b => k2 b
def loopN (rd : S → Option (Ro S A B)) : Nat → S → Option (En A B)
  | 0, _ => none
  | n + 1, s => match rd s with
    | some (.again s') => loopN rd n s'
    | some (.one a) => some (.one a)
    | some (.two b) => some (.two b)
    | none => none
theorem loopN_mono {rd : S → Option (Ro S A B)} : ∀ {n m : Nat} {s : S} {r : En A B}, loopN rd n s = some r → n ≤ m → loopN rd m s = some r
  | 0, _, _, _, h, _ => by cases h
  | n + 1, 0, _, _, _, hm => by omega
  | n + 1, m + 1, s, r, h, hm => by
    simp only [loopN] at h ⊢
    split at h
    · exact loopN_mono h (by omega)
    · exact h
    · exact h
    · cases h
open Classical in
noncomputable def loopL (rd : S → Option (Ro S A B)) (s : S) : Option (En A B) := if h : ∃ r n, loopN rd n s = some r then some h.choose else none
theorem loopL_of {rd : S → Option (Ro S A B)} {n : Nat} {s : S} {r : En A B} (h : loopN rd n s = some r) : loopL rd s = some r := by
  have hex : ∃ r n, loopN rd n s = some r := ⟨r, n, h⟩
  unfold loopL
  rw [dif_pos hex]
  obtain ⟨m, hm⟩ := hex.choose_spec
  have h1 := loopN_mono hm (Nat.le_max_left m n)
  have h2 := loopN_mono h (Nat.le_max_right m n)
  rw [h1] at h2
  exact h2
theorem loopL_some {rd : S → Option (Ro S A B)} {s : S} {r : En A B} (h : loopL rd s = some r) : ∃ n, loopN rd n s = some r := by
  unfold loopL at h
  split at h
  · rename_i hex
    have := hex.choose_spec
    simp only [Option.some.injEq] at h
    rw [h] at this
    exact this
  · cases h
theorem loopL_again {rd : S → Option (Ro S A B)} {s s' : S} (h : rd s = some (.again s')) : loopL rd s = loopL rd s' := by
  cases h' : loopL rd s' with
  | some r =>
    obtain ⟨n, hn⟩ := loopL_some h'
    exact loopL_of (n := n + 1) (by simp only [loopN, h, hn])
  | none =>
    cases h2 : loopL rd s with
    | none => rfl
    | some r =>
      obtain ⟨n, hn⟩ := loopL_some h2
      cases n with
      | zero => cases hn
      | succ n =>
        simp only [loopN, h] at hn
        rw [loopL_of hn] at h'
        cases h'
theorem loopL_one {rd : S → Option (Ro S A B)} {s : S} {a : A} (h : rd s = some (.one a)) : loopL rd s = some (.one a) := loopL_of (n := 1) (by simp only [loopN, h])
theorem loopL_two {rd : S → Option (Ro S A B)} {s : S} {b : B} (h : rd s = some (.two b)) : loopL rd s = some (.two b) := loopL_of (n := 1) (by simp only [loopN, h])
def bo (o : Option A) (d : A) (k : A → Option R) : Option R := br o.isSome (k (o.getD d)) none
def isOne : Option (En A B) → Bool
  | some (.one _) => true
  | _ => false
def getOne (d : A) : Option (En A B) → A
  | some (.one a) => a
  | _ => d
def getTwo (d : B) : Option (En A B) → B
  | some (.two b) => b
  | _ => d
def bl1 (o : Option (En A B)) (d : A) (k : A → Option R) : Option R := br (isOne o) (k (getOne d o)) none
def bl (o : Option (En A B)) (d : A) (e : B) (k1 : A → Option R) (k2 : B → Option R) : Option R := br o.isSome (br (isOne o) (k1 (getOne d o)) (k2 (getTwo e o))) none
theorem bo_some (a d : A) (k : A → Option R) : bo (some a) d k = k a := rfl
theorem bl1_one (a d : A) (k : A → Option R) : bl1 (B := B) (some (.one a)) d k = k a := rfl
theorem bl_one (a d : A) (e : B) (k1 : A → Option R) (k2 : B → Option R) : bl (some (.one a)) d e k1 k2 = k1 a := rfl
theorem bl_two (b : B) (d : A) (e : B) (k1 : A → Option R) (k2 : B → Option R) : bl (some (.two b)) d e k1 k2 = k2 b := rfl
theorem brB {T : Type} (t : Bool) (x y : Option T) (k : T → Option R) : (br t x y).bind k = br t (x.bind k) (y.bind k) := by cases t <;> rfl
theorem boB {T : Type} (o : Option A) (d : A) (f : A → Option T) (k : T → Option R) : (bo o d f).bind k = bo o d fun a => (f a).bind k := by cases o <;> rfl
theorem bl1B {T : Type} (o : Option (En A B)) (d : A) (f : A → Option T) (k : T → Option R) : (bl1 o d f).bind k = bl1 o d fun a => (f a).bind k := by unfold bl1; rw [brB]; rfl
theorem blB {T : Type} (o : Option (En A B)) (d : A) (e : B) (f : A → Option T) (g : B → Option T) (k : T → Option R) : (bl o d e f g).bind k = bl o d e (fun a => (f a).bind k) (fun b => (g b).bind k) := by unfold bl; rw [brB, brB]; rfl
theorem someB {T : Type} (x : T) (k : T → Option R) : (some x).bind k = k x := rfl
theorem noneB {T : Type} (k : T → Option R) : (none : Option T).bind k = none := rfl
end
open Classical in
noncomputable def limF {A R : Type} (F : Nat → A → Option R) (a : A) : Option R := if h : ∃ r n, F n a = some r then some h.choose else none
theorem limF_some {A R : Type} {F : Nat → A → Option R} {a : A} {r : R} (h : limF F a = some r) : ∃ n, F n a = some r := by
  unfold limF at h
  split at h
  · rename_i hex
    have := hex.choose_spec
    simp only [Option.some.injEq] at h
    rw [h] at this
    exact this
  · cases h
theorem limF_of {A R : Type} {F : Nat → A → Option R} {a : A} {n : Nat} {r : R} (h : F n a = some r) (hu : ∀ m r', F m a = some r' → r' = r) : limF F a = some r := by
  unfold limF
  have hex : ∃ r n, F n a = some r := ⟨r, n, h⟩
  rw [dif_pos hex]
  obtain ⟨m, hm⟩ := hex.choose_spec
  rw [hu m _ hm]
inductive Ph where
  | int (k : IntKind)
  | boo
  | str
  | sl
  | gr
  | evi (k : IntKind)
  | evb
  | evs
  | el
  | al (s : Nat)
  | go (s : Nat)
  | pt (k n : Nat)
  | fp (k : Nat)
  | nl (d : Nat)
  | en (d : Nat)
inductive Sh where
  | u
  | mv
  | und
  | own (e : TypeId)
  | fr (e : TypeId)
  | p (h : Ph)
  | fn (f : FuncId) (hs : List Ph)
inductive Vl where
  | i (x : Int)
  | b (x : Bool)
  | s (x : ByteArray)
  | l (L : List Sc)
def decP : Ph → Pv → Option (List Vl)
  | .int k, .sc (.n k' x) => match decide (k = k') with
    | true => some [.i x]
    | false => none
  | .boo, .sc (.b x) => some [.b x]
  | .str, .sc (.s x) => some [.s x]
  | .sl, .sl L => some [.l L]
  | .gr, .gr L => some [.l L]
  | .evi k, .ev (.n k' x) => match decide (k = k') with
    | true => some [.i x]
    | false => none
  | .evb, .ev (.b x) => some [.b x]
  | .evs, .ev (.s x) => some [.s x]
  | .el, .el L => some [.l L]
  | .al s, .al s' => match Nat.beq s s' with
    | true => some []
    | false => none
  | .go s, .go s' => match Nat.beq s s' with
    | true => some []
    | false => none
  | .pt k n, .pt k' n' => match Nat.beq k k' && Nat.beq n n' with
    | true => some []
    | false => none
  | .fp s, .fp s' => match Nat.beq s s' with
    | true => some []
    | false => none
  | .nl d, .nl d' L => match Nat.beq d d' with
    | true => some [.l L]
    | false => none
  | .en d, .en d' L => match Nat.beq d d' with
    | true => some [.l L]
    | false => none
  | _, _ => none
def encP : Ph → List Vl → Pv × List Vl
  | .int k, .i x :: r => (.sc (.n k x), r)
  | .boo, .b x :: r => (.sc (.b x), r)
  | .str, .s x :: r => (.sc (.s x), r)
  | .sl, .l x :: r => (.sl x, r)
  | .gr, .l x :: r => (.gr x, r)
  | .evi k, .i x :: r => (.ev (.n k x), r)
  | .evb, .b x :: r => (.ev (.b x), r)
  | .evs, .s x :: r => (.ev (.s x), r)
  | .el, .l x :: r => (.el x, r)
  | .al s, r => (.al s, r)
  | .go s, r => (.go s, r)
  | .pt k n, r => (.pt k n, r)
  | .fp s, r => (.fp s, r)
  | .nl d, .l x :: r => (.nl d x, r)
  | .en d, .l x :: r => (.en d x, r)
  | _, r => (.sc (.b false), r)
theorem decP_encP {h : Ph} {x : Pv} {a : List Vl} (hd : decP h x = some a) (r : List Vl) : encP h (a ++ r) = (x, r) := by
  unfold decP at hd
  split at hd
  · split at hd
    · rename_i hk; injection hd with hd; subst hd; simp only [List.cons_append, List.nil_append, encP, of_decide_eq_true hk]
    · cases hd
  · injection hd with hd; subst hd; rfl
  · injection hd with hd; subst hd; rfl
  · injection hd with hd; subst hd; rfl
  · injection hd with hd; subst hd; rfl
  · split at hd
    · rename_i hk; injection hd with hd; subst hd; simp only [List.cons_append, List.nil_append, encP, of_decide_eq_true hk]
    · cases hd
  · injection hd with hd; subst hd; rfl
  · injection hd with hd; subst hd; rfl
  · injection hd with hd; subst hd; rfl
  · split at hd
    · rename_i hk; injection hd with hd; subst hd; simp only [List.nil_append, encP, Nat.eq_of_beq_eq_true hk]
    · cases hd
  · split at hd
    · rename_i hk; injection hd with hd; subst hd; simp only [List.nil_append, encP, Nat.eq_of_beq_eq_true hk]
    · cases hd
  · split at hd
    · rename_i hk
      simp only [Bool.and_eq_true] at hk
      injection hd with hd; subst hd; simp only [List.nil_append, encP, Nat.eq_of_beq_eq_true hk.1, Nat.eq_of_beq_eq_true hk.2]
    · cases hd
  · split at hd
    · rename_i hk; injection hd with hd; subst hd; simp only [List.nil_append, encP, Nat.eq_of_beq_eq_true hk]
    · cases hd
  · split at hd
    · rename_i hk; injection hd with hd; subst hd; simp only [List.cons_append, List.nil_append, encP, Nat.eq_of_beq_eq_true hk]
    · cases hd
  · split at hd
    · rename_i hk; injection hd with hd; subst hd; simp only [List.cons_append, List.nil_append, encP, Nat.eq_of_beq_eq_true hk]
    · cases hd
  · cases hd
def decPs : List Ph → List Pv → Option (List Vl)
  | [], [] => some []
  | h :: hs, x :: xs => match decP h x, decPs hs xs with
    | some a, some b => some (a ++ b)
    | _, _ => none
  | _, _ => none
def encPs : List Ph → List Vl → List Pv × List Vl
  | [], r => ([], r)
  | h :: hs, r => match encP h r with
    | (x, r1) => match encPs hs r1 with
      | (xs, r2) => (x :: xs, r2)
theorem decPs_encPs : ∀ {hs : List Ph} {xs : List Pv} {a : List Vl}, decPs hs xs = some a → ∀ r, encPs hs (a ++ r) = (xs, r)
  | [], [], a, h, r => by simp only [decPs, Option.some.injEq] at h; subst h; rfl
  | [], _ :: _, a, h, r => by cases h
  | _ :: _, [], a, h, r => by cases h
  | h0 :: hs, x :: xs, a, h, r => by
    simp only [decPs] at h
    split at h
    · rename_i a1 b1 h1 h2
      injection h with h
      subst h
      simp only [encPs, List.append_assoc, decP_encP h1, decPs_encPs h2]
    · cases h
def dec1 : Sh → AV → Option (List Vl)
  | .u, .u => some []
  | .mv, .mv => some []
  | .und, .und => some []
  | .own e, .own e' L => match Nat.beq e e' with
    | true => some [.l L]
    | false => none
  | .fr e, .fr e' L => match Nat.beq e e' with
    | true => some [.l L]
    | false => none
  | .p h, .p x => decP h x
  | .fn f hs, .fn f' xs => match Nat.beq f f' with
    | true => decPs hs xs
    | false => none
  | _, _ => none
def enc1 : Sh → List Vl → AV × List Vl
  | .u, r => (.u, r)
  | .mv, r => (.mv, r)
  | .und, r => (.und, r)
  | .own e, .l L :: r => (.own e L, r)
  | .fr e, .l L :: r => (.fr e L, r)
  | .p h, r => match encP h r with
    | (x, r') => (.p x, r')
  | .fn f hs, r => match encPs hs r with
    | (xs, r') => (.fn f xs, r')
  | _, r => (.u, r)
theorem dec1_enc1 {h : Sh} {v : AV} {a : List Vl} (hd : dec1 h v = some a) (r : List Vl) : enc1 h (a ++ r) = (v, r) := by
  unfold dec1 at hd
  split at hd
  · injection hd with hd; subst hd; rfl
  · injection hd with hd; subst hd; rfl
  · injection hd with hd; subst hd; rfl
  · split at hd
    · rename_i hk; injection hd with hd; subst hd; simp only [List.cons_append, List.nil_append, enc1, Nat.eq_of_beq_eq_true hk]
    · cases hd
  · split at hd
    · rename_i hk; injection hd with hd; subst hd; simp only [List.cons_append, List.nil_append, enc1, Nat.eq_of_beq_eq_true hk]
    · cases hd
  · simp only [enc1, decP_encP hd]
  · split at hd
    · rename_i hk; simp only [enc1, decPs_encPs hd, Nat.eq_of_beq_eq_true hk]
    · cases hd
  · cases hd
def dec : List Sh → List AV → Option (List Vl)
  | [], [] => some []
  | h :: hs, v :: vs => match dec1 h v, dec hs vs with
    | some a, some b => some (a ++ b)
    | _, _ => none
  | _, _ => none
def enc : List Sh → List Vl → List AV
  | [], _ => []
  | h :: hs, r => match enc1 h r with
    | (v, r') => v :: enc hs r'
theorem dec_enc : ∀ {hs : List Sh} {σ : List AV} {vs : List Vl}, dec hs σ = some vs → enc hs vs = σ
  | [], [], vs, h => rfl
  | [], _ :: _, _, h => by cases h
  | _ :: _, [], _, h => by cases h
  | h0 :: hs, v :: σ, vs, h => by
    simp only [dec] at h
    split at h
    · rename_i a1 b1 h1 h2
      injection h with h
      subst h
      simp only [enc, dec1_enc1 h1, dec_enc h2]
    · cases h
def dec2 (ha hi : List Sh) (args inh : List AV) : Option (List Vl × List Vl) := match dec ha args, dec hi inh with
  | some a, some b => some (a, b)
  | _, _ => none
theorem dec2_enc {ha hi : List Sh} {args inh : List AV} {x : List Vl × List Vl} (h : dec2 ha hi args inh = some x) : enc ha x.1 = args ∧ enc hi x.2 = inh := by
  unfold dec2 at h
  split at h
  · rename_i a b h1 h2
    injection h with h
    subst h
    exact ⟨dec_enc h1, dec_enc h2⟩
  · cases h
abbrev CRow := List AV → List AV → Option (Bool × List AV × List AV)
def addC (n : FuncId) (c : CRow) (M : Calling) : Calling := fun f args inh => match Nat.beq f n with
  | true => match c args inh with
    | some x => some x
    | none => M f args inh
  | false => M f args inh
def addL (n : Nat) (t : List AV → Option (Bool × Bool × (X × List AV) × (X × List AV))) (T : LTab) : LTab := fun id σ => match Nat.beq id n with
  | true => match t σ with
    | some x => some x
    | none => T id σ
  | false => T id σ
section
variable {P : Program} {E : Env} {H : Hints} {F : Fi}
def CTrue (P : Program) (n : FuncId) (c : CRow) : Prop := ∀ args inh rs out, c args inh = some (true, rs, out) → CS P n args inh rs out
theorem addC_true {n : FuncId} {c : CRow} {M : Calling} (hc : CTrue P n c) (hM : CallOk P M) : CallOk P (addC n c M) := by
  intro f args inh rs out h
  unfold addC at h
  split at h
  · rename_i hb
    split at h
    · rename_i x hx
      rw [h] at hx
      rw [Nat.eq_of_beq_eq_true hb]
      exact hc args inh rs out hx
    · exact hM f args inh rs out h
  · exact hM f args inh rs out h
def TTrue (P : Program) (F : Fi) (fn : Func) (id : Nat) (t : List AV → Option (Bool × Bool × (X × List AV) × (X × List AV))) : Prop := ∀ σ p r r', t σ = some (true, p, r, r') → LS P F (bodyOf fn id) σ (if p then r else r')
theorem addL_true {fn : Func} {n : Nat} {t : List AV → Option (Bool × Bool × (X × List AV) × (X × List AV))} {T : LTab} (ht : TTrue P F fn n t) (hT : LTrue P F fn T) : LTrue P F fn (addL n t T) := by
  intro id σ p r r' h
  unfold addL at h
  split at h
  · rename_i hb
    split at h
    · rename_i x hx
      rw [h] at hx
      rw [Nat.eq_of_beq_eq_true hb]
      exact ht σ p r r' hx
    · exact hT id σ p r r' h
  · exact hT id σ p r r' h
theorem fn_true {f : FuncId} {fn : Func} {M : Calling} {T : LTab} {args inh : List AV} {V : Type} {G : Option V} {Gk : (V → Option (List AV × List AV)) → Option (List AV × List AV)} {en : V → List AV × List AV} {r : V} (hf : P.funcs[f]? = some fn) (hE : EnvOk P E) (hM : CallOk P M) (hL : LTrue P F fn T) (hn : loopsOnce fn = true)
    (hb : runFn E M H F (asL T) fn args inh = Gk fun r => some (en r)) (hp : ∀ k, Gk k = G.bind k) (h : G = some r) : CS P f args inh (en r).1 (en r).2 :=
  runFn_sound hE hM hf (hL.all hn) (by rw [hb, hp, h]; rfl)
variable {Q A B : Type}
def enX (f1 : A → X × List AV) (f2 : B → X × List AV) : En A B → X × List AV
  | .one a => f1 a
  | .two b => f2 b
theorem loop_true {fn : Func} {id : Nat} {M : Calling} {T : LTab} {rd : Q → Option (Ro Q A B)} {fr : Q → List AV} {f1 : A → X × List AV} {f2 : B → X × List AV} (hE : EnvOk P E) (hM : CallOk P M) (hL : LTrue P F fn T) (hn : loopsOnce fn = true)
    (hx1 : ∀ a, (f1 a).1 ≠ .norm) (hx2 : ∀ b, (f2 b).1 ≠ .norm) (hz1 : ∀ a, (f1 a).1 ≠ .rest) (hz2 : ∀ b, (f2 b).1 ≠ .rest)
    (hr : ∀ s, EC E M H F (asL T) id (bodyOf fn id) (fr s) (done (klOf F id)) = (rd s).bind (Ro.el (fun s' => some (.norm, fr s')) (fun a => some (f1 a)) (fun b => some (f2 b)))) :
    ∀ s r, loopL rd s = some r → LS P F (bodyOf fn id) (fr s) (enX f1 f2 r) := by
  intro s r h
  obtain ⟨n, hn'⟩ := loopL_some h
  clear h
  induction n generalizing s with
  | zero => cases hn'
  | succ n ih =>
    simp only [loopN] at hn'
    have h1 := hr s
    split at hn'
    · rename_i s' hs
      rw [hs] at h1
      exact LS_again hE hM hL hn h1 (ih s' hn') (by cases r with
        | one a => exact hx1 a
        | two b => exact hx2 b) (by cases r with
        | one a => exact hz1 a
        | two b => exact hz2 b)
    · rename_i a hs
      rw [hs] at h1
      simp only [Option.some.injEq] at hn'
      subst hn'
      exact LS_end hE hM hL hn h1 (hx1 a) (hz1 a)
    · rename_i b hs
      rw [hs] at h1
      simp only [Option.some.injEq] at hn'
      subst hn'
      exact LS_end hE hM hL hn h1 (hx2 b) (hz2 b)
    · cases hn'
theorem region_true {fn : Func} {id : Nat} {all : Array Oper} {Ds : List (Array Bool)} {M : Calling} {V S : Type} {G : S → Option V} {Gk : S → (V → Option (X × List AV)) → Option (X × List AV)} {fr : S → List AV} {f1 : V → X × List AV} (hE : EnvOk P E) (hM : CallOk P M) (hb : bodyOf fn (id + 100000) = .region id all true) (hc : closedB all Ds = true)
    (he : ∀ s, edgeL E M H F all Ds (fr s) = edgeR E M H F all Ds (fr s)) (hx : ∀ a, (f1 a).1 = .norm)
    (hr : ∀ s, goL E M H F all (Array.replicate all.size true) all.toList 0 (fr s) (fun σ' => some (X.norm, clear (klOf F (id + 100000)).2.1 σ')) = Gk s fun e => some (f1 e)) (hp : ∀ s k, Gk s k = (G s).bind k) :
    ∀ s r, G s = some r → LS P F (bodyOf fn (id + 100000)) (fr s) (f1 r) := by
  intro s r h
  have h1 := hr s
  rw [hp, h] at h1
  obtain ⟨σf, h2, h3⟩ := goL_some h1
  have h3 : (X.norm, clear (klOf F (id + 100000)).2.1 σf) = f1 r := Option.some.inj h3
  unfold LS
  rw [hx r, hb]
  intro Y w0 Mp M1 a w Q hst hQ
  refine region_all rfl hE hM hst hc (he s) h2 fun M' a' w' hst' => ?_
  obtain ⟨M2, h4⟩ := hst'.clear (klOf F (id + 100000)).2.1
  have e : (f1 r).2 = clear (klOf F (id + 100000)).2.1 σf := by rw [← h3]
  rw [e] at hQ
  exact hQ M2 a' w' h4
def doneT (ks : List Nat) (x : X) (σ : List AV) : Option (X × List AV) := match x with
  | .ret => some (.norm, clear ks σ)
  | _ => none
theorem tail_true {fn : Func} {id : Nat} {b : Code} {M : Calling} {T : LTab} {V S : Type} {G : S → Option V} {Gk : S → (V → Option (X × List AV)) → Option (X × List AV)} {fr : S → List AV} {f1 : V → X × List AV} (hE : EnvOk P E) (hM : CallOk P M) (hL : LTrue P F fn T) (hn : loopsOnce fn = true) (hb : bodyOf fn (id + 200000) = .block 0 b)
    (hx : ∀ a, (f1 a).1 = .norm) (hr : ∀ s, EC E M H F (asL T) 0 b (fr s) (doneT (klOf F (id + 200000)).2.2) = Gk s fun e => some (f1 e)) (hp : ∀ s k, Gk s k = (G s).bind k) :
    ∀ s r, G s = some r → LS P F (bodyOf fn (id + 200000)) (fr s) (f1 r) := by
  intro s r h
  have h1 := hr s
  rw [hp, h] at h1
  have h1 : EC E M H F (asL T) 0 b (fr s) (doneT (klOf F (id + 200000)).2.2) = some (f1 r) := h1
  have hin := hL.inner hn (id + 200000)
  rw [hb] at hin
  unfold LS
  rw [hx r, hb]
  intro Y w0 Mp M1 a w Q hst hQ
  refine EC_sound hE hM b 0 hin hst h1 fun M' x' σ1 a' w' hk hst' => ?_
  cases x' with
  | norm => cases hk
  | out i => cases hk
  | rest => cases hk
  | ret =>
    simp only [doneT, Option.some.injEq] at hk
    obtain ⟨M2, h2⟩ := hst'.clear (klOf F (id + 200000)).2.2
    have e : (f1 r).2 = clear (klOf F (id + 200000)).2.2 σ1 := by rw [← hk]
    rw [e] at hQ
    exact hQ M2 a' w' h2
def En.el {R : Type} (k1 : A → Option R) (k2 : B → Option R) : En A B → Option R
  | .one a => k1 a
  | .two b => k2 b
def codeIn : Code → Code
  | .block _ b => b
  | _ => .skip
theorem isOne_get {o : Option (En A B)} (d : A) (h : isOne o = true) : o = some (.one (getOne d o)) := by
  cases o with
  | none => cases h
  | some e => cases e with
    | one a => rfl
    | two b => cases h
def opsAt : Code → Array Oper
  | .region _ ops _ => ops
  | _ => #[]
theorem rowR {b : Code} {σ : List AV} {V : Type} {G : Option V} {d : V} {f1 : V → X × List AV} {p : Bool} {r r' z : X × List AV} (h : ∀ r, G = some r → LS P F b σ (f1 r)) (ht : some (G.isSome, true, f1 (G.getD d), z) = some (true, p, r, r')) : LS P F b σ (if p then r else r') := by
  simp only [Option.some.injEq, Prod.mk.injEq] at ht
  obtain ⟨h1, rfl, rfl, _⟩ := ht
  cases G with
  | none => cases h1
  | some g => exact h g rfl
theorem rowC {n : FuncId} {args inh rs out : List AV} {V : Type} {G : Option V} {d : V} {en : V → List AV × List AV} (h : ∀ r, G = some r → CS P n args inh (en r).1 (en r).2) (ht : some (G.isSome, (en (G.getD d)).1, (en (G.getD d)).2) = some (true, rs, out)) : CS P n args inh rs out := by
  simp only [Option.some.injEq, Prod.mk.injEq] at ht
  obtain ⟨h1, h2, h3⟩ := ht
  cases hF : G with
  | none => rw [hF] at h1; cases h1
  | some r => rw [hF] at h2 h3; rw [← h2, ← h3]; exact h r hF
theorem row1 {fn : Func} {id : Nat} {rd : Q → Option (Ro Q A B)} {s : Q} {d : A} {σ : List AV} {f1 : A → X × List AV} {f2 : B → X × List AV} {p : Bool} {r r' r0 : X × List AV}
    (h : ∀ r, loopL rd s = some r → LS P F (bodyOf fn id) σ (enX f1 f2 r))
    (ht : some (isOne (loopL rd s), true, f1 (getOne d (loopL rd s)), r0) = some (true, p, r, r')) : LS P F (bodyOf fn id) σ (if p then r else r') := by
  simp only [Option.some.injEq, Prod.mk.injEq] at ht
  obtain ⟨h1, h2, h3, h4⟩ := ht
  have := h _ (isOne_get d h1)
  rw [← h2, if_pos rfl, ← h3]
  exact this
theorem row2 {fn : Func} {id : Nat} {rd : Q → Option (Ro Q A B)} {s : Q} {d : A} {e : B} {σ : List AV} {f1 : A → X × List AV} {f2 : B → X × List AV} {p : Bool} {r r' : X × List AV}
    (h : ∀ r, loopL rd s = some r → LS P F (bodyOf fn id) σ (enX f1 f2 r))
    (ht : some ((loopL rd s).isSome, isOne (loopL rd s), f1 (getOne d (loopL rd s)), f2 (getTwo e (loopL rd s))) = some (true, p, r, r')) : LS P F (bodyOf fn id) σ (if p then r else r') := by
  simp only [Option.some.injEq, Prod.mk.injEq] at ht
  obtain ⟨h1, h2, h3, h4⟩ := ht
  cases ho : loopL rd s with
  | none => rw [ho] at h1; cases h1
  | some x =>
    rw [ho] at h2 h3 h4
    rw [← h2, ← h3, ← h4]
    cases x with
    | one a => exact h _ ho
    | two b => exact h _ ho
end
def lsI (L : List Sc) (i : Int) : List Sc := lstOf (L.getD i.toNat (.l []))
def lsN (L : List Sc) (i : Nat) : List Sc := lstOf (L.getD i (.l []))
def okZ (z : Sc) (L : List Sc) (i : Int) : Bool := inRange i L.length && sameKind z (L.getD i.toNat z)
def sAt (L : List Sc) (k : IntKind) (i : Int) : Int := numOf (L.getD i.toNat (.n k 0))
def kAt (L : List Sc) (i : Nat) : Bool := sameKind (.n .i64 0) (L.getD i (.n .i64 0))
def atN (L : List Sc) (i : Nat) : Int := numOf (L.getD i (.n .i64 0))
theorem kAt_ints (L : List Int) (i : Nat) : kAt (ints L) i = true := by
  unfold kAt ints
  simp only [List.getD, List.getElem?_map]
  cases L[i]? <;> rfl
theorem atN_ints (L : List Int) (i : Nat) : atN (ints L) i = L.getD i 0 := by
  unfold atN ints
  simp only [List.getD, List.getElem?_map]
  cases L[i]? <;> rfl
section
variable {E : Env} {cl : Calling} {H : Hints} {F : Fi} {lp : Looping} {R : Type}
end
end Go.Proofs.YtlnhommmmajllaaGreat.Ev
