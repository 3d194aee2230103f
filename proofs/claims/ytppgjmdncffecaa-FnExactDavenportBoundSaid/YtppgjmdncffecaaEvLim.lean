/-
  EvLim: the evaluator without fuel: 'CL' (calls), 'LP' (loops), and the rules by which they are reckoned.
-/
import Derived.Test.YtppgjmdncffecaaEvCode
namespace Go.Proofs.Ytppgjmdncffecaa.Ev
open Go Go.RowKit

/-- From some number on. -/
def Late (p : Nat → Prop) : Prop := ∃ n, ∀ m, n ≤ m → p m
theorem Late.and {p q : Nat → Prop} (hp : Late p) (hq : Late q) : Late fun m => p m ∧ q m := by
  obtain ⟨n, hn⟩ := hp
  obtain ⟨n', hn'⟩ := hq
  exact ⟨max n n', fun m hm => ⟨hn m (Nat.le_trans (Nat.le_max_left _ _) hm), hn' m (Nat.le_trans (Nat.le_max_right _ _) hm)⟩⟩
theorem Late.mono {p q : Nat → Prop} (hp : Late p) (h : ∀ m, p m → q m) : Late q := by
  obtain ⟨n, hn⟩ := hp
  exact ⟨n, fun m hm => h m (hn m hm)⟩
theorem Late.of {p : Nat → Prop} (h : ∀ m, p m) : Late p := ⟨0, fun m _ => h m⟩
theorem Late.get {p : Prop} (h : Late fun _ => p) : p := by
  obtain ⟨n, hn⟩ := h
  exact hn n (Nat.le_refl _)

section
variable {E : Env} {cl : Calling} {cls : Nat → Calling} {lp : Looping} {lps : Nat → Looping} {kl : Nat → List Nat × List Nat × List Nat} {σ : List AV} {R : Type}

def LimC (cl : Calling) (cls : Nat → Calling) : Prop := ∀ f args rs, cl f args = some (true, rs) → Late fun m => cls m f args = some (true, rs)

/-- The loops of a code: the number of the block round it, the body. -/
def loopsOf : Nat → Code → List (Nat × Code)
  | cur, .seq a b => loopsOf cur a ++ loopsOf cur b
  | cur, .cond _ a b => loopsOf cur a ++ loopsOf cur b
  | _, .block id b => loopsOf id b
  | cur, .loop b => (cur, b) :: loopsOf cur b
  | _, _ => []
def LimL (L : List (Nat × Code)) (lp : Looping) (lps : Nat → Looping) : Prop := ∀ id b σ p r r', (id, b) ∈ L → lp id b σ = some (true, p, r, r') →
  Late fun m => ∃ p' s s', lps m id b σ = some (true, p', s, s') ∧ (if p' then s else s') = (if p then r else r')
theorem LimL.sub {L L' : List (Nat × Code)} {lp : Looping} {lps : Nat → Looping} (h : LimL L' lp lps) (hs : ∀ x ∈ L, x ∈ L') : LimL L lp lps := fun id b σ p r r' hm => h id b σ p r r' (hs _ hm)

theorem valOp_late (hc : LimC cl cls) {op : Op} {k : AV → Option R} {r : R} (h : valOp E cl σ op k = some r) : ∃ v, k v = some r ∧ Late fun m => ∀ {R' : Type} (k' : AV → Option R'), valOp E (cls m) σ op k' = k' v := by
  obtain ⟨v, hv, hk⟩ := valOp_some h
  refine ⟨v, hk, ?_⟩
  have key : ∀ cl', valOp E cl' σ op some = some v → ∀ {R' : Type} (k' : AV → Option R'), valOp E cl' σ op k' = k' v := by
    intro cl' hv' R' k'
    have := valOp_bind (E := E) (cl := cl') (σ := σ) op (f := some) k'
    rw [hv'] at this
    simpa using this.symm
  cases op with
  | call c =>
    obtain ⟨cal, args, tys⟩ := c
    cases cal with
    | value f =>
      cases f with
      | func f =>
        simp only [valOp] at hv
        split at hv
        · rename_i hall
          split at hv
          · split at hv
            · cases hv
            rename_i g rs hrs _ hsoft
            have hv' : g = true ∧ some (packed rs) = some v := by
              rcases br_some hv with ⟨h1, h2⟩ | ⟨_, h2⟩
              · exact ⟨h1, h2⟩
              · cases h2
            obtain ⟨rfl, hv2⟩ := hv'
            refine (hc _ _ _ hrs).mono fun m hm => key (cls m) ?_
            simp only [valOp, hall, hm, hsoft]
            exact hv2
          · cases hv
        · cases hv
      | _ => simp [valOp] at hv
    | builtin b => exact Late.of fun m => key (cls m) (by cases b <;> exact hv)
    | _ => exact Late.of fun m => key (cls m) hv
  | _ => exact Late.of fun m => key (cls m) hv

theorem valD_late (hc : LimC cl cls) {op : Op} {k : AV → Option R} {r : R} (h : valD E cl σ op k = some r) : ∃ v, k v = some r ∧ Late fun m => ∀ {R' : Type} (k' : AV → Option R'), valD E (cls m) σ op k' = k' v := by
  cases op with
  | assign x => exact ⟨_, h, Late.of fun _ _ _ => rfl⟩
  | _ =>
    simp only [valD] at h ⊢
    obtain ⟨v, h1, h2⟩ := valOp_late hc h
    exact ⟨mild v, h1, h2.mono fun m hm R' k' => hm fun v => k' (mild v)⟩

theorem softCall_late (hc : LimC cl cls) {f : FuncId} {c : Call} {rs : List AV} (h : softCall cl σ f c = some (true, rs)) : Late fun m => softCall (cls m) σ f c = some (true, rs) := by
  simp only [softCall] at h
  split at h
  · rename_i hall
    split at h
    · rename_i g rs' hrs
      split at h
      · rename_i hsoft
        simp only [Option.some.injEq, Prod.mk.injEq] at h
        obtain ⟨rfl, rfl⟩ := h
        exact (hc _ _ _ hrs).mono fun m hm => by simp only [softCall, hall, hm, hsoft]
      · cases h
    · cases h
  · cases h

theorem stepOp_late (hc : LimC cl cls) {d : Option Tmp} {op : Op} {k : List AV → Option R} {r : R} (h : stepOp E cl σ d op k = some r) : ∃ σ', k σ' = some r ∧ Late fun m => ∀ {R' : Type} (k' : List AV → Option R'), stepOp E (cls m) σ d op k' = k' σ' := by
  have val : ∀ {op : Op}, (∀ (cl' : Calling) {R' : Type} (k' : List AV → Option R'), stepOp E cl' σ d op k' = valOp E cl' σ op fun v => k' (put σ d v)) → stepOp E cl σ d op k = some r → ∃ σ', k σ' = some r ∧ Late fun m => ∀ {R' : Type} (k' : List AV → Option R'), stepOp E (cls m) σ d op k' = k' σ' := by
    intro op heq h
    rw [heq] at h
    obtain ⟨v, h1, h2⟩ := valOp_late hc h
    exact ⟨put σ d v, h1, h2.mono fun m hm R' k' => by rw [heq]; exact hm fun v => k' (put σ d v)⟩
  cases op with
  | assign x =>
    simp only [stepOp] at h ⊢
    split at h
    · split at h
      · split at h
        · exact ⟨_, h, Late.of fun _ _ _ => by simp only [*]⟩
        · cases h
      · split at h
        · exact ⟨_, h, Late.of fun _ _ _ => by simp only [*]⟩
        · cases h
      · exact ⟨_, h, Late.of fun _ _ _ => by simp only [*]⟩
    · exact ⟨_, h, Late.of fun _ _ _ => by simp only [*]⟩
  | store t p x =>
    simp only [stepOp] at h ⊢
    split at h
    · split at h
      · exact ⟨_, h, Late.of fun _ _ _ => by simp only [*]⟩
      · cases h
    · cases h
  | buildSlice t n parts =>
    simp only [stepOp] at h ⊢
    split at h
    · exact ⟨_, h, Late.of fun _ _ _ => by simp only [*]⟩
    · cases h
  | makeSlice t x y =>
    simp only [stepOp] at h ⊢
    split at h
    · rcases br_some h with ⟨h1, h2⟩ | ⟨h1, h2⟩
      · exact ⟨_, h2, Late.of fun _ _ _ => by simp only [*]; rfl⟩
      · cases h2
    · cases h
  | build t parts =>
    simp only [stepOp] at h ⊢
    split at h
    · split at h
      · exact ⟨_, h, Late.of fun _ _ _ => by simp only [*]⟩
      · exact ⟨_, h, Late.of fun _ _ _ => by simp only [*]⟩
      · split at h
        · exact ⟨_, h, Late.of fun _ _ _ => by simp only [*]⟩
        · cases h
      · cases h
    · cases h
  | slice t x lo hi mx =>
    cases mx with
    | some mx => simp [stepOp, valOp] at h
    | none =>
      simp only [stepOp] at h ⊢
      split at h
      · split at h
        · rcases br_some h with ⟨h1, h2⟩ | ⟨h1, h2⟩
          · exact ⟨_, h2, Late.of fun _ _ _ => by simp only [*]; rfl⟩
          · cases h2
        · cases h
      · split at h
        · rcases br_some h with ⟨h1, h2⟩ | ⟨h1, h2⟩
          · exact ⟨_, h2, Late.of fun _ _ _ => by simp only [*]; rfl⟩
          · cases h2
        · cases h
      · split at h
        · split at h
          · rcases br_some h with ⟨h1, h2⟩ | ⟨h1, h2⟩
            · exact ⟨_, h2, Late.of fun _ _ _ => by simp only [*]; rfl⟩
            · cases h2
          · cases h
        · cases h
      · split at h
        · rcases br_some h with ⟨h1, h2⟩ | ⟨h1, h2⟩
          · exact ⟨_, h2, Late.of fun _ _ _ => by simp only [*]; rfl⟩
          · cases h2
        · cases h
      · cases h
  | call c =>
    obtain ⟨cal, args, tys⟩ := c
    cases cal with
    | builtin b =>
      cases b with
      | append =>
        simp only [stepOp] at h ⊢
        split at h
        · split at h
          · split at h
            · split at h
              · rcases br_some h with ⟨h1, h2⟩ | ⟨h1, h2⟩
                · exact ⟨_, h2, Late.of fun _ _ _ => by simp only [*]; rfl⟩
                · cases h2
              · cases h
            · cases h
          · cases h
        · cases h
      | _ => exact val (fun cl' R' k' => by simp only [stepOp]) h
    | value x =>
      cases x with
      | func f =>
        simp only [stepOp] at h ⊢
        split at h
        · rename_i g rs hs
          rcases br_some h with ⟨rfl, h2⟩ | ⟨_, h2⟩
          · refine ⟨_, h2, (softCall_late hc hs).mono fun m hm R' k' => ?_⟩
            simp only [hm]
            rfl
          · cases h2
        · rename_i hs
          obtain ⟨v, h1, h2⟩ := valOp_late hc h
          obtain ⟨g, rs, h3⟩ : ∃ rs, rs.any soft = false ∧ cl f (args.toList.map fun x => argOf σ (evalO σ x)) = some (true, rs) := by
            simp only [valOp] at h
            split at h
            · split at h
              · split at h
                · cases h
                rename_i g rs hrs _ hsoft
                rcases br_some h with ⟨rfl, _⟩ | ⟨_, h⟩
                · exact ⟨rs, hsoft, hrs⟩
                · cases h
              · cases h
            · cases h
          refine ⟨put σ d v, h1, (h2.and (hc _ _ _ h3)).mono fun m hm R' k' => ?_⟩
          have : softCall (cls m) σ f ⟨.value (.func f), args, tys⟩ = none := by
            simp only [softCall, hm.2, rs]
            split <;> rfl
          simp only [this]
          exact hm.1 fun v => k' (put σ d v)
      | _ => exact val (fun cl' R' k' => by simp only [stepOp]) h
    | _ => exact val (fun cl' R' k' => by simp only [stepOp]) h
  | _ => exact val (fun cl' R' k' => by simp only [stepOp]) h

theorem setD_late {d : Option Tmp} {v : AV} {k : List AV → Option R} {r : R} (h : setD σ d v k = some r) : ∃ σ', k σ' = some r ∧ ∀ {R' : Type} (k' : List AV → Option R'), setD σ d v k' = k' σ' := by
  obtain ⟨d', rfl, h1, h2, h3⟩ := setD_some h
  exact ⟨_, h3, fun k' => by simp only [setD, h1, h2, Bool.and_self]⟩

theorem oneOp_late (hc : LimC cl cls) {draw : Bool} {o : Oper} {k : List AV → Option R} {r : R} (h : oneOp E cl draw σ o k = some r) : ∃ σ', k σ' = some r ∧ Late fun m => ∀ {R' : Type} (k' : List AV → Option R'), oneOp E (cls m) draw σ o k' = k' σ' := by
  cases draw with
  | false => exact stepOp_late hc h
  | true =>
    have h' : valD E cl σ o.op (fun v => setD σ o.dst v k) = some r := h
    obtain ⟨v, h1, h2⟩ := valD_late hc h'
    obtain ⟨σ', h3, h4⟩ := setD_late h1
    exact ⟨σ', h3, h2.mono fun m hm R' k' => (hm fun v => setD σ o.dst v k').trans (h4 k')⟩
theorem skipOp_late {draw : Bool} {o : Oper} {k : List AV → Option R} {r : R} (h : skipOp draw σ o k = some r) : ∃ σ', k σ' = some r ∧ ∀ {R' : Type} (k' : List AV → Option R'), skipOp draw σ o k' = k' σ' := by
  cases draw with
  | false => exact ⟨_, h, fun _ => rfl⟩
  | true => exact setD_late h

theorem goOps_late (hc : LimC cl cls) {draw : Bool} {all : Array Oper} : ∀ (l : List Oper) {σ : List AV} {k : List AV → Option R} {r : R}, goOps E cl draw all l σ k = some r →
    ∃ σ', k σ' = some r ∧ Late fun m => ∀ {R' : Type} (k' : List AV → Option R'), goOps E (cls m) draw all l σ k' = k' σ'
  | [], σ, k, r, h => ⟨σ, h, Late.of fun _ _ _ => rfl⟩
  | o :: rest, σ, k, r, h => by
    unfold goOps at h
    split at h
    · rename_i hg
      obtain ⟨σ1, h1, h2⟩ := oneOp_late hc h
      obtain ⟨σ2, h3, h4⟩ := goOps_late hc rest h1
      refine ⟨σ2, h3, (h2.and h4).mono fun m hm R' k' => ?_⟩
      unfold goOps
      simp only [hg]
      exact (hm.1 _).trans (hm.2 k')
    · rename_i j want hg
      split at h
      · rename_i d hd
        split at h
        · rename_i x hx
          rcases br_some h with ⟨h0, h⟩ | ⟨h0, h⟩
          · obtain ⟨σ1, h1, h2⟩ := oneOp_late hc h
            obtain ⟨σ2, h3, h4⟩ := goOps_late hc rest h1
            refine ⟨σ2, h3, (h2.and h4).mono fun m hm R' k' => ?_⟩
            unfold goOps
            simp only [hg, hd, hx, h0]
            exact (hm.1 _).trans (hm.2 k')
          · obtain ⟨σ1, h1, h2⟩ := skipOp_late h
            obtain ⟨σ2, h3, h4⟩ := goOps_late hc rest h1
            refine ⟨σ2, h3, h4.mono fun m hm R' k' => ?_⟩
            unfold goOps
            simp only [hg, hd, hx, h0]
            exact (h2 _).trans (hm k')
        · rename_i hx
          obtain ⟨σ1, h1, h2⟩ := skipOp_late h
          obtain ⟨σ2, h3, h4⟩ := goOps_late hc rest h1
          refine ⟨σ2, h3, h4.mono fun m hm R' k' => ?_⟩
          unfold goOps
          simp only [hg, hd, hx]
          exact (h2 _).trans (hm k')
        · cases h
      · cases h

theorem cellOp_late {o1 o2 : Oper} {k : List AV → Option R} {r : R} (h : cellOp E σ o1 o2 k = some r) : ∃ σ', k σ' = some r ∧ ∀ {R' : Type} (k' : List AV → Option R'), cellOp E σ o1 o2 k' = k' σ' := by
  unfold cellOp at h
  split at h
  · rename_i h1 h2 h3
    split at h
    · rename_i g1 g2 g3
      exact ⟨_, h, fun k' => by simp only [cellOp, h1, h2, h3, g1, g2, g3]⟩
    · cases h
  · cases h

theorem EC_late (hc : LimC cl cls) : ∀ (c : Code) (cur : Nat) {σ : List AV} {k : X → List AV → Option R} {r : R}, LimL (loopsOf cur c) lp lps → EC E cl lp kl cur c σ k = some r →
    ∃ x σ', k x σ' = some r ∧ Late fun m => ∀ {R' : Type} (k' : X → List AV → Option R'), EC E (cls m) (lps m) kl cur c σ k' = k' x σ'
  | .skip, _, _, _, _, _, h => ⟨_, _, h, Late.of fun _ _ _ => rfl⟩
  | .exit _, _, _, _, _, _, h => ⟨_, _, h, Late.of fun _ _ _ => rfl⟩
  | .ret, _, _, _, _, _, h => ⟨_, _, h, Late.of fun _ _ _ => rfl⟩
  | .seq a b, cur, σ, k, r, hl, h => by
    simp only [EC] at h
    obtain ⟨x, σ1, h1, h2⟩ := EC_late hc a cur (hl.sub fun x hx => List.mem_append_left _ hx) h
    cases x with
    | norm =>
      obtain ⟨x', σ2, h3, h4⟩ := EC_late hc b cur (hl.sub fun x hx => List.mem_append_right _ hx) h1
      exact ⟨x', σ2, h3, (h2.and h4).mono fun m hm R' k' => by simp only [EC]; exact (hm.1 _).trans (hm.2 k')⟩
    | ret => exact ⟨_, _, h1, h2.mono fun m hm R' k' => by simp only [EC]; exact hm _⟩
    | out i => exact ⟨_, _, h1, h2.mono fun m hm R' k' => by simp only [EC]; exact hm _⟩
  | .cond c a b, cur, σ, k, r, hl, h => by
    simp only [EC] at h
    split at h
    · rename_i t ht
      rcases br_some h with ⟨rfl, h⟩ | ⟨rfl, h⟩
      · obtain ⟨x, σ1, h1, h2⟩ := EC_late hc a cur (hl.sub fun x hx => List.mem_append_left _ hx) h
        exact ⟨x, σ1, h1, h2.mono fun m hm R' k' => by simp only [EC, ht]; exact hm k'⟩
      · obtain ⟨x, σ1, h1, h2⟩ := EC_late hc b cur (hl.sub fun x hx => List.mem_append_right _ hx) h
        exact ⟨x, σ1, h1, h2.mono fun m hm R' k' => by simp only [EC, ht]; exact hm k'⟩
    · cases h
  | .block id b, cur, σ, k, r, hl, h => by
    simp only [EC] at h
    obtain ⟨x, σ1, h1, h2⟩ := EC_late hc b id hl h
    cases x with
    | norm => exact ⟨_, _, h1, h2.mono fun m hm R' k' => by simp only [EC]; exact hm _⟩
    | ret => exact ⟨_, _, h1, h2.mono fun m hm R' k' => by simp only [EC]; exact hm _⟩
    | out i =>
      simp only [] at h1
      split at h1
      · rename_i hi
        exact ⟨_, _, h1, h2.mono fun m hm R' k' => by simp only [EC]; rw [hm]; simp only [hi]⟩
      · rename_i hi
        exact ⟨_, _, h1, h2.mono fun m hm R' k' => by simp only [EC]; rw [hm]; simp only [hi]⟩
  | .loop b, cur, σ, k, r, hl, h => by
    simp only [EC] at h
    split at h
    · rename_i g p r1 r2 hx
      have h' : g = true ∧ k (if p then r1 else r2).1 (if p then r1 else r2).2 = some r := by
        rcases br_some h with ⟨h1, h2⟩ | ⟨_, h2⟩
        · rcases br_some h2 with ⟨rfl, h3⟩ | ⟨rfl, h3⟩
          · exact ⟨h1, h3⟩
          · exact ⟨h1, h3⟩
        · cases h2
      obtain ⟨rfl, h2⟩ := h'
      refine ⟨_, _, h2, (hl _ _ _ _ _ _ List.mem_cons_self hx).mono fun m hm R' k' => ?_⟩
      obtain ⟨p', s1, s2, h3, h4⟩ := hm
      simp only [EC, h3]
      rw [← h4]
      cases p' <;> rfl
    · cases h
  | .region _ ops draw, cur, σ, k, r, _, h => by
    simp only [EC] at h
    split at h
    · split at h
      · rename_i f o1 o2 hct
        obtain ⟨σ1, h1, h2⟩ := goOps_late hc _ h
        obtain ⟨σ', h3, h4⟩ := cellOp_late h1
        exact ⟨.norm, σ', h3, h2.mono fun m hm R' k' => by simp only [EC, hct]; exact (hm _).trans (h4 _)⟩
      · rename_i hct
        obtain ⟨σ', h1, h2⟩ := goOps_late hc _ h
        exact ⟨.norm, σ', h1, h2.mono fun m hm R' k' => by simp only [EC, hct]; exact hm _⟩
    · have tail : ∀ n, goOps E cl true ops (ops.toList.take n) σ (fun σ' => goOps E cl false ops (ops.toList.drop n) σ' (k .norm)) = some r →
          ∃ σ', k .norm σ' = some r ∧ Late fun m => ∀ {R' : Type} (k' : X → List AV → Option R'), goOps E (cls m) true ops (ops.toList.take n) σ (fun σ' => goOps E (cls m) false ops (ops.toList.drop n) σ' (k' .norm)) = k' .norm σ' := by
        intro n h
        obtain ⟨σ1, h1, h2⟩ := goOps_late hc _ h
        obtain ⟨σ2, h3, h4⟩ := goOps_late hc _ h1
        exact ⟨σ2, h3, (h2.and h4).mono fun m hm R' k' => (hm.1 _).trans (hm.2 _)⟩
      split at h
      · rename_i hok
        split at h
        · rename_i hb
          obtain ⟨σ', h1, h2⟩ := goOps_late hc _ h
          exact ⟨.norm, σ', h1, h2.mono fun m hm R' k' => by simp only [EC, hok, hb]; exact hm _⟩
        · rename_i hb
          split at h
          · rename_i hok2
            obtain ⟨σ', h1, h2⟩ := tail _ h
            exact ⟨.norm, σ', h1, h2.mono fun m hm R' k' => by simp only [EC, hok, hb, hok2]; exact hm k'⟩
          · cases h
      · rename_i hok
        split at h
        · rename_i hok2
          obtain ⟨σ', h1, h2⟩ := tail _ h
          exact ⟨.norm, σ', h1, h2.mono fun m hm R' k' => by simp only [EC, hok, hok2]; exact hm k'⟩
        · cases h
  | .rangeFunc _ _ _ _, _, _, _, _, _, h => by simp [EC] at h
  | .scope _, _, _, _, _, _, h => by simp [EC] at h
  | .label _, _, _, _, _, _, h => by simp [EC] at h
  | .goto _, _, _, _, _, _, h => by simp [EC] at h
  | .refuse _, _, _, _, _, _, h => by simp [EC] at h

theorem runFn_late (hc : LimC cl cls) {fn : Func} (hl : ∀ c, fn.body = some c → LimL (loopsOf 0 c) lp lps) {args rs : List AV} (h : runFn E cl lp kl fn args = some rs) : Late fun m => runFn E (cls m) (lps m) kl fn args = some rs := by
  unfold runFn at h
  split at h
  · cases h
  · rename_i c hb
    split at h
    · cases h
    · rename_i hchk
      obtain ⟨x, σ', h1, h2⟩ := EC_late hc c 0 (hl c hb) h
      refine h2.mono fun m hm => ?_
      unfold runFn
      simp only [hb, hchk]
      exact (hm _).trans h1
end

section
variable (S : Setup)
open Classical in
/-- What a call comes to. -/
noncomputable def CL (f : FuncId) (args : List AV) : Option (List AV) := if h : ∃ rs, Late fun m => (run S m).1 f args = some (true, rs) then some h.choose else none
open Classical in
/-- What a loop comes to. -/
noncomputable def LP (f : FuncId) (id : Nat) (b : Code) (σ : List AV) : Option (X × List AV) :=
  if h : ∃ x : X × List AV, Late fun m => ∃ p r r', (run S m).2 f id b σ = some (true, p, r, r') ∧ (if p then r else r') = x then some h.choose else none
end

section
variable {S : Setup}
theorem CL_of_late {f : FuncId} {args rs : List AV} (h : Late fun m => (run S m).1 f args = some (true, rs)) : CL S f args = some rs := by
  have hex : ∃ r, Late fun m => (run S m).1 f args = some (true, r) := ⟨rs, h⟩
  unfold CL
  rw [dif_pos hex]
  have := (hex.choose_spec.and h).mono (q := fun _ => hex.choose = rs) fun m ⟨h1, h2⟩ => by
    rw [h1] at h2
    simpa using h2
  rw [this.get]
theorem LP_of_late {f : FuncId} {id : Nat} {b : Code} {σ : List AV} {x : X × List AV} (h : Late fun m => ∃ p r r', (run S m).2 f id b σ = some (true, p, r, r') ∧ (if p then r else r') = x) : LP S f id b σ = some x := by
  have hex : ∃ x : X × List AV, Late fun m => ∃ p r r', (run S m).2 f id b σ = some (true, p, r, r') ∧ (if p then r else r') = x := ⟨x, h⟩
  unfold LP
  rw [dif_pos hex]
  have := (hex.choose_spec.and h).mono (q := fun _ => hex.choose = x) fun m ⟨⟨p, r, r', h1, h2⟩, ⟨q, s, s', h3, h4⟩⟩ => by
    rw [h1] at h3
    simp only [Option.some.injEq, Prod.mk.injEq, true_and] at h3
    obtain ⟨rfl, rfl, rfl⟩ := h3
    exact h2.symm.trans h4
  rw [this.get]
theorem CL_late {f : FuncId} {args rs : List AV} (h : CL S f args = some rs) : Late fun m => (run S m).1 f args = some (true, rs) := by
  unfold CL at h
  split at h
  · rename_i hex
    have := hex.choose_spec
    simp only [Option.some.injEq] at h
    rw [h] at this
    exact this
  · cases h
theorem LP_late {f : FuncId} {id : Nat} {b : Code} {σ : List AV} {x : X × List AV} (h : LP S f id b σ = some x) : Late fun m => ∃ p r r', (run S m).2 f id b σ = some (true, p, r, r') ∧ (if p then r else r') = x := by
  unfold LP at h
  split at h
  · rename_i hex
    have := hex.choose_spec
    simp only [Option.some.injEq] at h
    rw [h] at this
    exact this
  · cases h

theorem Late.succ {p : Nat → Prop} (h : Late fun m => p (m + 1)) : Late p := by
  obtain ⟨n, hn⟩ := h
  exact ⟨n + 1, fun m hm => by
    obtain ⟨m', rfl⟩ : ∃ m', m = m' + 1 := ⟨m - 1, by omega⟩
    exact hn m' (by omega)⟩

/-- A table of calls that says nothing false. -/
def CallsTrue (S : Setup) (M : Calling) : Prop := ∀ f args rs, M f args = some (true, rs) → CL S f args = some rs
/-- A table of a function's loops that says nothing false. -/
def LoopsTrue (S : Setup) (f : FuncId) (L : List (Nat × Code)) (ML : Looping) : Prop := ∀ id b σ p r r', (id, b) ∈ L → ML id b σ = some (true, p, r, r') → LP S f id b σ = some (if p then r else r')

theorem CallsTrue.lim {M : Calling} (h : CallsTrue S M) : LimC M fun m => (run S m).1 := fun f args rs hm => CL_late (h f args rs hm)
theorem LoopsTrue.lim {f : FuncId} {L : List (Nat × Code)} {ML : Looping} (h : LoopsTrue S f L ML) : LimL L ML fun m => (run S m).2 f :=
  fun id b σ p r r' hin hm => LP_late (h id b σ p r r' hin hm)

/-- **A call is its body**, the calls and loops in it by their tables. -/
theorem CL_of {f : FuncId} {fn : Func} {M : Calling} {ML : Looping} {args rs : List AV} (hf : S.P.funcs[f]? = some fn) (he : S.ext f args = none) (hM : CallsTrue S M) (hL : ∀ c, fn.body = some c → LoopsTrue S f (loopsOf 0 c) ML)
    (h : runFn S.E M ML (S.kl f) fn args = some rs) : CL S f args = some rs :=
  CL_of_late (Late.succ ((runFn_late hM.lim (fun c hc => (hL c hc).lim) h).mono fun m hm => by
    show (match S.ext f args with
      | some r => some r
      | none => match S.P.funcs[f]? with
        | none => none
        | some fn => (runFn S.E (run S m).1 ((run S m).2 f) (S.kl f) fn args).map sure) = _
    simp only [he, hf, hm]
    rfl))
theorem CL_ext {f : FuncId} {args rs : List AV} (he : S.ext f args = some (true, rs)) : CL S f args = some rs :=
  CL_of_late (Late.of fun m => by cases m <;> simp only [run, he])

/-- What a round leads to: the loop's head again, or out of the loop; what is not looked at any more is laid aside. -/
def done (kl : List Nat × List Nat × List Nat) (x : X) (σ : List AV) : Option (X × List AV) := match x with
  | .norm => some (.norm, clear kl.1 σ)
  | .out i => some (.out i, clear kl.2.1 σ)
  | .ret => some (.ret, clear kl.2.2 σ)

/-- **A loop is a round and the loop again.** -/
theorem LP_of {f : FuncId} {id : Nat} {b : Code} {M : Calling} {ML : Looping} {σ σ' : List AV} {x : X} {y : X × List AV} (hM : CallsTrue S M) (hL : LoopsTrue S f (loopsOf id b) ML)
    (h : EC S.E M ML (S.kl f) id b σ (done (S.kl f id)) = some (x, σ'))
    (hx : (match x with
      | .norm => LP S f id b σ'
      | x => some (x, σ')) = some y) : LP S f id b σ = some y := by
  obtain ⟨x', σ1, h1, h2⟩ := EC_late hM.lim b id hL.lim h
  refine LP_of_late (Late.succ ?_)
  cases x' with
  | norm =>
    simp only [done, Option.some.injEq, Prod.mk.injEq] at h1
    obtain ⟨rfl, rfl⟩ := h1
    refine (h2.and (LP_late hx)).mono fun m hm => ?_
    obtain ⟨hm1, p, r, r', h3, h4⟩ := hm
    exact ⟨p, r, r', by simp only [run]; exact (hm1 _).trans h3, h4⟩
  | ret =>
    simp only [done, Option.some.injEq, Prod.mk.injEq] at h1
    obtain ⟨rfl, rfl⟩ := h1
    simp only [Option.some.injEq] at hx
    subst hx
    exact h2.mono fun m hm => ⟨true, _, _, by simp only [run]; exact hm _, rfl⟩
  | out i =>
    simp only [done, Option.some.injEq, Prod.mk.injEq] at h1
    obtain ⟨rfl, rfl⟩ := h1
    simp only [Option.some.injEq] at hx
    subst hx
    exact h2.mono fun m hm => ⟨true, _, _, by simp only [run]; exact hm _, rfl⟩

/-- **What the evaluator finds, the program does.** -/
theorem CL_sound (hS : SetupOk S) {f : FuncId} {args rs : List AV} (h : CL S f args = some rs) : (∃ fn, S.P.funcs[f]? = some fn ∧ fn.body.isSome = true) ∧ ∀ vs w, Args w args vs →
    Calls S.P f vs.toArray w fun e w' => ∃ xs, e = .returned (packV xs) ∧ RetOk w.heap.size w' rs xs ∧ Below w.heap.size w w' := by
  obtain ⟨n, hn⟩ := CL_late h
  exact (run_sound hS n).1 f args rs (hn n (Nat.le_refl _))
end
end Go.Proofs.Ytppgjmdncffecaa.Ev
