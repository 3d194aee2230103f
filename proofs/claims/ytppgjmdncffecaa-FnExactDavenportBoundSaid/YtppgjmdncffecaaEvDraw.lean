/-
  EvDraw: a region whose order is open: every order comes to what the text's own order comes to.
-/
import Derived.Test.YtppgjmdncffecaaEvRegion
import Derived.Still
namespace Go.Proofs.Ytppgjmdncffecaa.Ev
open Go Go.RowKit

section
variable {P : Program} {E : Env} {cl : Calling} {B : Nat} {w0 w : World} {own : Own} {σ : List AV} {a : Act} {R : Type}

theorem br_bind {α β : Type} (t : Bool) (x y : Option α) (k : α → Option β) : (br t x y).bind k = br t (x.bind k) (y.bind k) := by cases t <;> rfl

theorem scBin_bind (op : BinOp) (x y : Sc) {S : Type} (f : Sc → Option S) (k : S → Option R) : (scBin op x y f).bind k = scBin op x y fun z => (f z).bind k := by
  cases x <;> cases y <;> cases op <;> simp only [scBin] <;> first
    | rfl
    | exact br_bind ..
    | (split
       · first | rfl | exact br_bind ..
       · rfl)

theorem valOp_bind (op : Op) {S : Type} (f : AV → Option S) (k : S → Option R) : (valOp E cl σ op f).bind k = valOp E cl σ op fun v => (f v).bind k := by
  cases op with
  | pick c x y =>
    simp only [valOp]
    split
    · split <;> simp [br_bind]
    · rfl
  | binOp op t x y t' =>
    simp only [valOp]
    split
    · split
      · exact scBin_bind ..
      · rfl
    · rfl
  | indexAddr t x i =>
    simp only [valOp]
    split
    · simp [br_bind]
    · simp [br_bind]
    · split
      · simp [br_bind]
      · rfl
    · rfl
  | index t x i =>
    simp only [valOp]
    split
    · simp [br_bind]
    · rfl
  | load t x =>
    simp only [valOp]
    split <;> (try split) <;> first | rfl | simp [br_bind]
  | call c =>
    simp only [valOp]
    split
    · split
      · split
        · split
          · rfl
          · simp [br_bind]
        · rfl
      · rfl
    · split
      · split
        · split <;> rfl
        · split <;> rfl
      · rfl
    · split <;> rfl
    · split <;> rfl
    · rfl
  | _ => simp only [valOp] <;> (try split) <;> rfl

theorem valOp_some {op : Op} {k : AV → Option R} {r : R} (h : valOp E cl σ op k = some r) : ∃ v, valOp E cl σ op some = some v ∧ k v = some r := by
  have := valOp_bind (E := E) (cl := cl) (σ := σ) op (f := some) k
  simp only [Option.bind_some] at this
  rw [← this] at h
  exact Option.bind_eq_some_iff.1 h

theorem valD_bind (op : Op) {S : Type} (f : AV → Option S) (k : S → Option R) : (valD E cl σ op f).bind k = valD E cl σ op fun v => (f v).bind k := by
  cases op <;> simp only [valD] <;> first | rfl | exact valOp_bind (f := fun v => f (mild v)) ..

theorem valD_some {op : Op} {k : AV → Option R} {r : R} (h : valD E cl σ op k = some r) : ∃ v, valD E cl σ op some = some v ∧ k v = some r := by
  have := valD_bind (E := E) (cl := cl) (σ := σ) op (f := some) k
  simp only [Option.bind_some] at this
  rw [← this] at h
  exact Option.bind_eq_some_iff.1 h

theorem setD_some {d : Option Tmp} {v : AV} {k : List AV → Option R} {r : R} (h : setD σ d v k = some r) : ∃ d', d = some d' ∧ plainA (σ.getD d' .u) = true ∧ plainA v = true ∧ k (σ.set d' v) = some r := by
  unfold setD at h
  split at h
  · cases h
  · rename_i d'
    split at h
    · cases h
    · rename_i hp
      simp only [Bool.and_eq_true] at hp
      exact ⟨d', rfl, hp.1, hp.2, h⟩

/-! ### One operation, looked at from any state -/

/-- What the operation's guard says: carried out (true), passed over (false). -/
def wantA (all : Array Oper) (σ : List AV) (o : Oper) : Option Bool :=
  match o.guard with
  | none => some true
  | some (j, want) => match (all[j]?).bind (·.dst) with
    | some d => match σ.getD d .u with
      | .sc (.b x) => some (x == want)
      | .und => some false
      | _ => none
    | none => none

/-- Operation o lays v into slot d. -/
def Lays (E : Env) (cl : Calling) (all : Array Oper) (o : Oper) (d : Nat) (v : AV) (σ : List AV) : Prop :=
  o.dst = some d ∧ plainA (σ.getD d .u) = true ∧ plainA v = true ∧
    ((wantA all σ o = some true ∧ valD E cl σ o.op some = some v) ∨ (wantA all σ o = some false ∧ v = .und))

def aop (E : Env) (cl : Calling) (all : Array Oper) (i : Nat) (K : List AV → Prop) (σ : List AV) : Prop :=
  match all[i]? with
  | none => K σ
  | some o => ∃ d v, Lays E cl all o d v σ ∧ K (σ.set d v)

theorem aop_mono {all : Array Oper} {i : Nat} {K K' : List AV → Prop} (h : ∀ σ, K σ → K' σ) (hh : aop E cl all i K σ) : aop E cl all i K' σ := by
  unfold aop at *
  split
  · rename_i ho; simp only [ho] at hh; exact h _ hh
  · rename_i o ho
    simp only [ho] at hh
    obtain ⟨d, v, h1, h2⟩ := hh
    exact ⟨d, v, h1, h _ h2⟩

def lexA (E : Env) (cl : Calling) (all : Array Oper) (K : List AV → Prop) : List Oper → List AV → Prop
  | [], σ => K σ
  | o :: r, σ => ∃ d v, Lays E cl all o d v σ ∧ lexA E cl all K r (σ.set d v)

/-- The evaluator's own walk is the text's order. -/
theorem lexA_of_goOps {all : Array Oper} {k : List AV → Option R} {r : R} : ∀ (l : List Oper) {σ : List AV}, goOps E cl true all l σ k = some r → lexA E cl all (fun σ => k σ = some r) l σ
  | [], _, h => h
  | o :: rest, σ, h => by
    have one : ∀ {σ' : List AV}, σ' = σ → wantA all σ o = some true → oneOp E cl true σ' o (fun σ' => goOps E cl true all rest σ' k) = some r → lexA E cl all (fun σ => k σ = some r) (o :: rest) σ := by
      intro σ' he hw hone
      subst he
      have hone' : valD E cl σ' o.op (fun v => setD σ' o.dst v (fun σ' => goOps E cl true all rest σ' k)) = some r := hone
      obtain ⟨v, h1, h2⟩ := valD_some hone'
      obtain ⟨d, h3, h4, h5, h6⟩ := setD_some h2
      exact ⟨d, v, ⟨h3, h4, h5, .inl ⟨hw, h1⟩⟩, lexA_of_goOps rest h6⟩
    have skip : ∀ {σ' : List AV}, σ' = σ → wantA all σ o = some false → skipOp true σ' o (fun σ' => goOps E cl true all rest σ' k) = some r → lexA E cl all (fun σ => k σ = some r) (o :: rest) σ := by
      intro σ' he hw hskip
      subst he
      have hskip' : setD σ' o.dst .und (fun σ' => goOps E cl true all rest σ' k) = some r := hskip
      obtain ⟨d, h3, h4, h5, h6⟩ := setD_some hskip'
      exact ⟨d, .und, ⟨h3, h4, h5, .inr ⟨hw, rfl⟩⟩, lexA_of_goOps rest h6⟩
    unfold goOps at h
    split at h
    · rename_i hg
      exact one rfl (by simp [wantA, hg]) h
    · rename_i j want hg
      split at h
      · rename_i d hd
        split at h
        · rename_i x hx
          rcases br_some h with ⟨h1, h2⟩ | ⟨h1, h2⟩
          · have hxw : x = want := by simpa using h1
            subst hxw
            exact one (set_self hx (by simp)) (by simp only [wantA, hg, hd, hx, beq_self_eq_true]) h2
          · have hxw : x = !want := by cases x <;> cases want <;> simp_all
            subst hxw
            exact skip (set_self hx (by simp)) (by simp only [wantA, hg, hd, hx, h1]) h2
        · rename_i hx
          exact skip rfl (by simp only [wantA, hg, hd, hx]) h
        · cases h
      · cases h

/-! ### A value laid into a slot that the operation does not look at -/
theorem evalO_set {d : Nat} {v : AV} {x : Operand} (hx : x ≠ .tmp d) : evalO (σ.set d v) x = evalO σ x := by
  cases x with
  | tmp t =>
    simp only [evalO]
    rw [getD_set_other _ _ _ _ _ (fun e => hx (by rw [e]))]
  | _ => rfl
theorem ownOf_set {d s : Nat} {v : AV} (hv : plainA v = true) (hd : plainA (σ.getD d .u) = true) : ownOf (σ.set d v) s = ownOf σ s := by
  unfold ownOf
  by_cases hs : d = s
  · subst hs
    by_cases hl : d < σ.length
    · rw [getD_set_same _ _ _ _ hl]
      cases v <;> cases hq : σ.getD d .u <;> simp_all [plainA]
    · have : σ.set d v = σ := List.set_eq_of_length_le (Nat.le_of_not_lt hl)
      rw [this]
  · rw [getD_set_other _ _ _ _ _ hs]
theorem listOf_set {d : Nat} {v y : AV} (hv : plainA v = true) (hd : plainA (σ.getD d .u) = true) : listOf (σ.set d v) y = listOf σ y := by
  cases y <;> simp [listOf, ownOf_set hv hd]
theorem argOf_set {d : Nat} {v y : AV} (hv : plainA v = true) (hd : plainA (σ.getD d .u) = true) : argOf (σ.set d v) y = argOf σ y := by
  cases y <;> simp [argOf, ownOf_set hv hd]

theorem valOp_set {d : Nat} {v : AV} (hv : plainA v = true) (hd : plainA (σ.getD d .u) = true) {op : Op} (hop : Operand.tmp d ∉ op.operands.toList) (k : AV → Option R) : valOp E cl (σ.set d v) op k = valOp E cl σ op k := by
  have he : ∀ x, x ∈ op.operands.toList → evalO (σ.set d v) x = evalO σ x := fun x hx => evalO_set (fun e => hop (e ▸ hx))
  cases op with
  | call c =>
    obtain ⟨cal, args, tys⟩ := c
    have hargs : ∀ x ∈ args.toList, evalO (σ.set d v) x = evalO σ x := fun x hx => he x (by simp [Op.operands, Call.operands]; right; simpa using hx)
    have hm : args.toList.map (evalO (σ.set d v)) = args.toList.map (evalO σ) := List.map_congr_left hargs
    have hm' : (args.toList.map fun x => argOf (σ.set d v) (evalO (σ.set d v) x)) = (args.toList.map fun x => argOf σ (evalO σ x)) := List.map_congr_left fun x hx => by rw [hargs x hx, argOf_set hv hd]
    simp only [valOp, hm, hm']
    split
    · rfl
    · split
      · rename_i x t hx _
        rw [hargs x (by rw [hx]; simp)]
        simp only [listOf_set hv hd]
      · rfl
    · rfl
    · rfl
    · rfl
  | move x => simp only [valOp, he x (by simp [Op.operands])]
  | pick c x y => simp only [valOp, he c (by simp [Op.operands]), he x (by simp [Op.operands]), he y (by simp [Op.operands])]
  | box t x => simp only [valOp, he x (by simp [Op.operands])]
  | fieldAddr t x f => simp only [valOp, he x (by simp [Op.operands])]
  | field t x f => simp only [valOp, he x (by simp [Op.operands])]
  | load t x => simp only [valOp, he x (by simp [Op.operands]), ownOf_set hv hd]
  | binOp op t x y t' => simp only [valOp, he x (by simp [Op.operands]), he y (by simp [Op.operands])]
  | unOp op t x => simp only [valOp, he x (by simp [Op.operands])]
  | convert s d' x => simp only [valOp, he x (by simp [Op.operands])]
  | indexAddr t x i => simp only [valOp, he x (by simp [Op.operands]), he i (by simp [Op.operands]), ownOf_set hv hd]
  | index t x i => simp only [valOp, he x (by simp [Op.operands]), he i (by simp [Op.operands])]
  | extract x i => simp only [valOp, he x (by simp [Op.operands])]
  | _ => simp only [valOp]

theorem valD_set {d : Nat} {v : AV} (hv : plainA v = true) (hd : plainA (σ.getD d .u) = true) {op : Op} (hop : Operand.tmp d ∉ op.operands.toList) (k : AV → Option R) : valD E cl (σ.set d v) op k = valD E cl σ op k := by
  cases op with
  | assign x => simp only [valD]; rw [evalO_set (fun e => hop (by simp [Op.operands, e]))]
  | _ => simp only [valD]; exact valOp_set hv hd hop fun v => k (mild v)

theorem wantA_set {all : Array Oper} {d : Nat} {v : AV} {o : Oper} (hg : ∀ j b, o.guard = some (j, b) → (all[j]?).bind (·.dst) ≠ some d) : wantA all (σ.set d v) o = wantA all σ o := by
  unfold wantA
  cases hgd : o.guard with
  | none => rfl
  | some g =>
    obtain ⟨j, b⟩ := g
    simp only []
    cases hd' : (all[j]?).bind (·.dst) with
    | none => rfl
    | some d' =>
      simp only []
      rw [getD_set_other _ _ _ _ _ (fun e => hg j b hgd (by rw [hd', e]))]

theorem looks_op {all : Array Oper} {o : Oper} {d : Nat} (h : d ∉ o.looksAt all) : Operand.tmp d ∉ o.op.operands.toList := by
  intro hin
  apply h
  unfold Oper.looksAt
  exact List.mem_append_left _ (List.mem_filterMap.2 ⟨.tmp d, hin, rfl⟩)
theorem looks_guard {all : Array Oper} {o : Oper} {d : Nat} (h : d ∉ o.looksAt all) : ∀ j b, o.guard = some (j, b) → (all[j]?).bind (·.dst) ≠ some d := by
  intro j b hg he
  apply h
  unfold Oper.looksAt
  refine List.mem_append_right _ ?_
  simp [hg, he]

/-- Operations apart: that 'oi' has laid its value makes no difference to 'oj', nor the other way round. -/
theorem aop_put {all : Array Oper} {j : Nat} {oi oj : Oper} {di : Nat} {v : AV} (hj : all[j]? = some oj) (hap : oi.apart all oj = true) {K : List AV → Prop}
    (hy : Lays E cl all oi di v σ) (h : aop E cl all j K (σ.set di v)) : aop E cl all j (fun σ' => Lays E cl all oi di v σ' ∧ K (σ'.set di v)) σ := by
  obtain ⟨h1, h2, h3⟩ := Oper.apart_spec hap
  obtain ⟨y1, y2, y3, y4⟩ := hy
  unfold aop at *
  simp only [hj] at *
  obtain ⟨dj, vj, ⟨g1, g2, g3, g4⟩, hK⟩ := h
  have hne : di ≠ dj := fun e => h2 di y1 (by rw [g1, e])
  have hi_j := h1 di y1
  have hj_i := h3 dj g1
  rw [getD_set_other _ _ _ _ _ hne] at g2
  rw [wantA_set (looks_guard hi_j)] at g4
  rw [valD_set y3 y2 (looks_op hi_j)] at g4
  refine ⟨dj, vj, ⟨g1, g2, g3, g4⟩, ⟨y1, ?_, y3, ?_⟩, ?_⟩
  · rw [getD_set_other _ _ _ _ _ (Ne.symm hne)]; exact y2
  · rw [wantA_set (looks_guard hj_i), valD_set g3 g2 (looks_op hj_i)]; exact y4
  · rw [List.set_comm _ _ (Ne.symm hne)]; exact hK

/-- Whatever order is picked from here on. -/
def DA (E : Env) (cl : Calling) (all : Array Oper) (K : List AV → Prop) : Nat → Array Bool → List AV → Prop
  | 0, listed, σ => Region.ready .any all listed = [] ∧ K σ
  | n + 1, listed, σ => (Region.ready .any all listed = [] → K σ) ∧ ∀ i ∈ Region.ready .any all listed, aop E cl all i (DA E cl all K n (listed.setIfInBounds i true)) σ

theorem aop_of_Lays {all : Array Oper} {i : Nat} {o : Oper} {d : Nat} {v : AV} (hi : all[i]? = some o) (hy : Lays E cl all o d v σ) {K : List AV → Prop} (h : K (σ.set d v)) : aop E cl all i K σ := by
  unfold aop
  simp only [hi]
  exact ⟨d, v, hy, h⟩

theorem DA_first {all : Array Oper} {K : List AV → Prop} {i : Nat} {oi : Oper} {d : Nat} {v : AV} (hi : all[i]? = some oi) : ∀ (fuel : Nat) (listed : Array Bool) (σ : List AV),
    (∀ j oj, all[j]? = some oj → j ≠ i → listed.getD j true = false → (∀ e ∈ oj.after, Region.binds .any e = true → e.on ≠ i) → oi.apart all oj = true) →
    i ∈ Region.ready .any all listed → Lays E cl all oi d v σ → DA E cl all K fuel (listed.setIfInBounds i true) (σ.set d v) → DA E cl all K (fuel + 1) listed σ := by
  intro fuel
  induction fuel with
  | zero =>
    intro listed σ _ hr hy H
    refine ⟨fun h => (by rw [h] at hr; cases hr), fun j hj => ?_⟩
    by_cases hji : j = i
    · subst hji; exact aop_of_Lays hi hy H
    · have := ready_mono hj hji
      rw [H.1] at this
      cases this
  | succ fuel ih =>
    intro listed σ hfree hr hy H
    refine ⟨fun h => (by rw [h] at hr; cases hr), fun j hj => ?_⟩
    by_cases hji : j = i
    · subst hji; exact aop_of_Lays hi hy H
    · have h1 := H.2 j (ready_mono hj hji)
      obtain ⟨hjun, oj, hoj, hall⟩ := mem_ready.1 hj
      have hnot : ∀ e ∈ oj.after, Region.binds .any e = true → e.on ≠ i := fun e he hb heq => by
        have h1 := hall e he hb
        have h0 := (mem_ready.1 hr).1
        rw [heq] at h1
        rcases Nat.lt_or_ge i listed.size with h' | h'
        · simp [h'] at h0 h1; rw [h0] at h1; cases h1
        · simp [Array.getElem?_eq_none h'] at h1
      have h2 := aop_put hoj (hfree j oj hoj hji hjun hnot) hy h1
      have hfree' : ∀ k ok, all[k]? = some ok → k ≠ i → (listed.setIfInBounds j true).getD k true = false →
          (∀ e ∈ ok.after, Region.binds .any e = true → e.on ≠ i) → oi.apart all ok = true := fun k ok hk hki hun hno => by
        refine hfree k ok hk hki ?_ hno
        by_cases hjk : j = k
        · subst hjk; exact hjun
        · rw [getD_set_ne true hjk] at hun; exact hun
      refine aop_mono (fun σ' h3 => ih (listed.setIfInBounds j true) σ' hfree' (ready_mono hr (Ne.symm hji)) h3.1 ?_) h2
      rw [Array.setIfInBounds_comm _ _ hji]
      exact h3.2

theorem DA_lex {all : Array Oper} {K : List AV → Prop} : ∀ (l : List Oper) (k : Nat) (listed : Array Bool) (σ : List AV), (∀ j, l[j]? = all[k + j]?) →
    Region.lexFrom .any all l.length k listed = true → lexA E cl all K l σ → DA E cl all K l.length listed σ
  | [], _, _, _, _, hB, h => ⟨by simpa [Region.lexFrom] using hB, h⟩
  | o :: l, k, listed, σ, hl, hB, h => by
    have h0 : all[k]? = some o := by simpa using (hl 0).symm
    simp only [List.length_cons, Region.lexFrom, Bool.and_eq_true] at hB
    obtain ⟨⟨hr, hf⟩, hB'⟩ := hB
    obtain ⟨d, v, hy, hK⟩ := h
    exact DA_first h0 l.length listed σ (Region.free_spec h0 hf) (by simpa using hr) hy
      (DA_lex l (k + 1) _ _ (fun j => by have := hl (j + 1); simpa [Nat.add_assoc, Nat.add_comm 1 j] using this) hB' hK)

/-! ### What the slots say holds of the frame, in every order -/
theorem want_sound (h : St B w0 own σ a w) {all : Array Oper} {o : Oper} {b : Bool} (hw : wantA all σ o = some b) : Region.wanted o (yielded all a.tmps) = b := by
  unfold wantA at hw
  unfold Region.wanted
  split at hw
  · rename_i hg
    simp only [Option.some.injEq] at hw
    simp [hg, ← hw]
  · rename_i j want hg
    split at hw
    · rename_i d hd
      split at hw
      · rename_i x hx
        simp only [Option.some.injEq] at hw
        simp only [hg, yielded_sc h hd hx, ← hw]
        cases x <;> cases want <;> rfl
      · rename_i hx
        simp only [Option.some.injEq] at hw
        simp only [hg, yielded_und h hd hx, ← hw]
        cases want <;> rfl
      · cases hw
    · cases hw

theorem set_eq_setA {d : Nat} {v : AV} (hd : plainA (σ.getD d .u) = true) (hv : ∀ s, v ≠ .al s) (hv' : ∀ s i, v ≠ .ep s i) : setA σ d v = σ.set d v := by
  have h1 : kill d σ = σ := by
    unfold Ev.kill
    split
    · rename_i e L hq; rw [hq] at hd; cases hd
    · rfl
  have h2 : drop1 d v = v := by
    cases v <;> first | rfl | exact absurd rfl (hv _) | exact absurd rfl (hv' _ _)
  unfold setA
  rw [h1, h2]

/-- A plain value over a plain one. -/
theorem St.setPlain (h : St B w0 own σ a w) {w' : World} {v : AV} {x : Value} {d : Nat} (hg : Below w.heap.size w w') (hv : NV B own σ a.tmps w w' v x) (hp : plainA v = true) (hd : plainA (σ.getD d .u) = true) :
    ∃ own', St B w0 own' (σ.set d v) (a.put (some d) x) w' := by
  cases v with
  | al s =>
    obtain ⟨e, L, h1, h2⟩ := hv
    by_cases hs : s = d
    · subst hs; rw [h1] at hd; cases hd
    · have hst := h.set hg (v := .al s) (x := x) ⟨e, L, h1, h2⟩ d
      have : setA σ d (.al s) = σ.set d (.al s) := by
        unfold setA
        rw [drop1_al_ne hs]
        congr 1
        unfold Ev.kill
        split
        · rename_i e L hq; rw [hq] at hd; cases hd
        · rfl
      rw [this] at hst
      exact ⟨_, hst⟩
  | ep s i =>
    obtain ⟨e, L, g, cap, h1, h2, h3, h4⟩ := hv
    by_cases hs : s = d
    · subst hs; rw [h1] at hd; cases hd
    · have hst := h.set hg (v := .ep s i) (x := x) ⟨e, L, g, cap, h1, h2, h3, h4⟩ d
      have : setA σ d (.ep s i) = σ.set d (.ep s i) := by
        unfold setA
        rw [drop1_ep_ne hs]
        congr 1
        unfold Ev.kill
        split
        · rename_i e L hq; rw [hq] at hd; cases hd
        · rfl
      rw [this] at hst
      exact ⟨_, hst⟩
  | _ =>
    have hst := h.set hg hv d
    rw [set_eq_setA hd (by simp) (by simp)] at hst
    exact ⟨_, hst⟩

theorem NV_mild (h : St B w0 own σ a w) {w' : World} {v : AV} {x : Value} (hv : NV B own σ a.tmps w w' v x) : NV B own σ a.tmps w w' (mild v) x := by
  cases v with
  | own e L =>
    have hv' : w'.ownsRow w.heap.size e 1 x L.length (L.map Sc.val) := hv
    exact ⟨ownsRow_mono hv' h.base, fun b hb' => notin h (ownBlock_lt hv' hb').1⟩
  | _ => exact hv

theorem valD_sound (h : St B w0 own σ a w) (hE : EnvOk P E) (hcl : CallOk P cl) {o : Oper} {op : Op} (ho : o.op = op) {k : AV → Option R} {r : R} (hk : valD E cl σ op k = some r) : Gives P B own σ a w o k r := by
  cases op with
  | assign x =>
    exact gives_val (by simp [execOp, ho]) hk (NV_of_GV (h.eval x))
  | _ =>
    simp only [valD] at hk
    intro next Q hn
    exact valOp_sound h hE hcl ho hk next Q fun v x w' hv hb hnv => hn (mild v) x w' hv hb (NV_mild h hnv)

theorem DA_sound (hE : EnvOk P E) (hcl : CallOk P cl) {all : Array Oper} {Q : Exit → Act → World → Prop} {K : List AV → Prop}
    (hQ : ∀ own' σ' a' w', K σ' → St B w0 own' σ' a' w' → Q .normal a' w') :
    ∀ (fuel : Nat) (listed : Array Bool) {own : Own} {σ : List AV} {a : Act} {w : World}, St B w0 own σ a w → DA E cl all K fuel listed σ → wpAny P .any all Q fuel listed a w
  | 0, _, _, _, _, _, h, hd => ⟨hd.1, hQ _ _ _ _ hd.2 h⟩
  | fuel + 1, listed, own, σ, a, w, h, hd => by
    refine ⟨fun h0 => hQ _ _ _ _ (hd.1 h0) h, fun i hi => ?_⟩
    have h1 := hd.2 i hi
    unfold aop at h1
    unfold wpOp
    split
    · rename_i hn
      simp only [hn] at h1
      exact DA_sound hE hcl hQ fuel _ h h1
    · rename_i o ho
      simp only [ho] at h1
      obtain ⟨d, v, ⟨y1, y2, y3, y4⟩, hK⟩ := h1
      rcases y4 with ⟨hw, hv⟩ | ⟨hw, rfl⟩
      · rw [if_pos (want_sound h hw)]
        refine .inl (valD_sound h hE hcl rfl hv _ _ fun v' x w' hv' hb hnv => ?_)
        simp only [Option.some.injEq] at hv'
        subst hv'
        obtain ⟨own', hst⟩ := h.setPlain hb hnv y3 y2
        rw [y1]
        exact DA_sound hE hcl hQ fuel _ hst hK
      · rw [if_neg (by rw [want_sound h hw]; simp)]
        obtain ⟨own', hst⟩ := h.setPlain (Below.refl _ _) (v := .und) (x := undef) rfl rfl y2
        rw [y1]
        exact DA_sound hE hcl hQ fuel _ hst hK

theorem St.drew (h : St B w0 own σ a w) : ∃ own', St B w0 own' σ a { w with drawn := w.drawn + 1 } :=
  h.put (Below.refl _ _).drew (v := .u) (x := undef) trivial none

/-- **A region whose order is open.** -/
theorem draw_sound (hE : EnvOk P E) (hcl : CallOk P cl) (h : St B w0 own σ a w) {id : Nat} {all : Array Oper} {Q : Exit → Act → World → Prop} {k : List AV → Option R} {r : R} (hok : drawOk all = true) (hk : goOps E cl true all all.toList σ k = some r)
    (hQ : ∀ own' σ' a' w', k σ' = some r → St B w0 own' σ' a' w' → Q .normal a' w') : (Code.region id all true).wp P Q a w := by
  unfold drawOk Region.lexB at hok
  simp only [Bool.and_eq_true] at hok
  obtain ⟨own1, h1⟩ := h.drew
  refine wp_region_any hE.wide (DA_sound (K := fun σ => k σ = some r) hE hcl hQ _ _ h1 ?_)
  have := DA_lex (E := E) (cl := cl) (K := fun σ => k σ = some r) all.toList 0 (Array.replicate all.size false) σ (by simp) (by simpa using hok.2) (lexA_of_goOps _ hk)
  simpa using this

/-! ### A region whose order is open but for a tail -/
def DT (E : Env) (cl : Calling) (all : Array Oper) (n : Nat) (L : Array Bool → List AV → Prop) : Nat → Array Bool → List AV → Prop
  | 0, listed, σ => L listed σ
  | f + 1, listed, σ => Region.ready .any all listed ≠ [] ∧ ∀ i ∈ Region.ready .any all listed, i < n ∧ aop E cl all i (DT E cl all n L f (listed.setIfInBounds i true)) σ

theorem DT_first {all : Array Oper} {n i : Nat} {oi : Oper} {d : Nat} {v : AV} {L : Array Bool → List AV → Prop} (hi : all[i]? = some oi)
    (hs : Region.sinkB .any all n = true) (hc : Region.chainB .any all n = true) (hn : n < all.size) (hin : i < n)
    (hdone : ∀ listed σ, L listed σ → ∀ j ∈ Region.ready .any all listed, n ≤ j) :
    ∀ (f : Nat) (listed : Array Bool) (σ : List AV), HeadInv .any all n listed →
      (∀ j oj, all[j]? = some oj → j ≠ i → listed.getD j true = false → (∀ e ∈ oj.after, Region.binds .any e = true → e.on ≠ i) → oi.apart all oj = true) →
      i ∈ Region.ready .any all listed → Lays E cl all oi d v σ → DT E cl all n L f (listed.setIfInBounds i true) (σ.set d v) → DT E cl all n L (f + 1) listed σ := by
  intro f
  induction f with
  | zero =>
    intro listed σ inv _ hr hy H
    have hun := (mem_ready.1 hr).1
    refine ⟨fun h => (by rw [h] at hr; cases hr), fun j hj => ?_⟩
    have hjn : j < n := by
      rcases Nat.lt_or_ge j n with h | h
      · exact h
      · exact absurd hj (tail_waits hs hc hn inv _ i rfl hin hun j h)
    refine ⟨hjn, ?_⟩
    by_cases hji : j = i
    · subst hji; exact aop_of_Lays hi hy H
    · have := hdone _ _ H j (ready_mono hj hji)
      omega
  | succ f ih =>
    intro listed σ inv hfree hr hy H
    have hun := (mem_ready.1 hr).1
    refine ⟨fun h => (by rw [h] at hr; cases hr), fun j hj => ?_⟩
    have hjn : j < n := by
      rcases Nat.lt_or_ge j n with h | h
      · exact h
      · exact absurd hj (tail_waits hs hc hn inv _ i rfl hin hun j h)
    refine ⟨hjn, ?_⟩
    by_cases hji : j = i
    · subst hji; exact aop_of_Lays hi hy H
    · have h1 := (H.2 j (ready_mono hj hji)).2
      obtain ⟨hjun, oj, hoj, hall⟩ := mem_ready.1 hj
      have hnot : ∀ e ∈ oj.after, Region.binds .any e = true → e.on ≠ i := fun e he hb heq => by
        have h1 := hall e he hb
        rw [heq, getD_both hun] at h1
        cases h1
      have h2 := aop_put hoj (hfree j oj hoj hji hjun hnot) hy h1
      have hfree' : ∀ k ok, all[k]? = some ok → k ≠ i → (listed.setIfInBounds j true).getD k true = false →
          (∀ e ∈ ok.after, Region.binds .any e = true → e.on ≠ i) → oi.apart all ok = true := fun k ok hk hki hun hno => by
        refine hfree k ok hk hki ?_ hno
        by_cases hjk : j = k
        · subst hjk; exact hjun
        · rw [getD_set_ne true hjk] at hun; exact hun
      refine aop_mono (fun σ' h3 => ih (listed.setIfInBounds j true) σ' (inv.set hj hjn) hfree' (ready_mono hr (Ne.symm hji)) h3.1 ?_) h2
      rw [Array.setIfInBounds_comm _ _ hji]
      exact h3.2

theorem DT_lex {all : Array Oper} {n g : Nat} {K : List AV → Prop} (hs : Region.sinkB .any all n = true) (hc : Region.chainB .any all n = true) (hn : n < all.size) :
    ∀ (l : List Oper) (k : Nat) (listed : Array Bool) (σ : List AV), (∀ j, j < l.length → l[j]? = all[k + j]?) → k + l.length = n → HeadInv .any all n listed →
    Region.lexHead .any all g l.length k listed = true → lexA E cl all K l σ →
    DT E cl all n (fun listed' σ' => Region.seqB .any all g n listed' = true ∧ K σ') l.length listed σ
  | [], k, listed, σ, _, hk, _, hB, h => by
    have : k = n := by simpa using hk
    subst this
    exact ⟨by simpa [Region.lexHead] using hB, h⟩
  | o :: l, k, listed, σ, hl, hk, inv, hB, h => by
    have h0 : all[k]? = some o := by simpa using (hl 0 (by simp)).symm
    simp only [List.length_cons, Region.lexHead, Bool.and_eq_true] at hB
    obtain ⟨⟨hr, hf⟩, hB'⟩ := hB
    have hkn : k < n := by simp only [List.length_cons] at hk; omega
    have hr' : k ∈ Region.ready .any all listed := by simpa using hr
    obtain ⟨d, v, hy, hK⟩ := h
    exact DT_first h0 hs hc hn hkn (fun listed' σ' hL => seqB_ready hL.1) l.length listed σ inv (Region.free_spec h0 hf) hr' hy
      (DT_lex hs hc hn l (k + 1) _ _ (fun j hj => by have := hl (j + 1) (by simp; omega); simpa [Nat.add_assoc, Nat.add_comm 1 j] using this) (by simp only [List.length_cons] at hk; omega) (inv.set hr' hkn) hB' hK)

theorem DT_sound (hE : EnvOk P E) (hcl : CallOk P cl) {all : Array Oper} {Q : Exit → Act → World → Prop} {n g : Nat} {L : Array Bool → List AV → Prop}
    (hL : ∀ listed own' σ' a' w', L listed σ' → St B w0 own' σ' a' w' → wpAny P .any all Q g listed a' w') :
    ∀ (f : Nat) (listed : Array Bool) {own : Own} {σ : List AV} {a : Act} {w : World}, St B w0 own σ a w → DT E cl all n L f listed σ → wpAny P .any all Q (f + g) listed a w
  | 0, listed, _, _, _, _, h, hd => by rw [Nat.zero_add]; exact hL _ _ _ _ _ hd h
  | f + 1, listed, own, σ, a, w, h, hd => by
    rw [show f + 1 + g = (f + g) + 1 by omega]
    refine ⟨fun h0 => absurd h0 hd.1, fun i hi => ?_⟩
    have h1 := (hd.2 i hi).2
    unfold aop at h1
    unfold wpOp
    split
    · rename_i hn
      simp only [hn] at h1
      exact DT_sound hE hcl hL f _ h h1
    · rename_i o ho
      simp only [ho] at h1
      obtain ⟨d, v, ⟨y1, y2, y3, y4⟩, hK⟩ := h1
      rcases y4 with ⟨hw, hv⟩ | ⟨hw, rfl⟩
      · rw [if_pos (want_sound h hw)]
        refine .inl (valD_sound h hE hcl rfl hv _ _ fun v' x w' hv' hb hnv => ?_)
        simp only [Option.some.injEq] at hv'
        subst hv'
        obtain ⟨own', hst⟩ := h.setPlain hb hnv y3 y2
        rw [y1]
        exact DT_sound hE hcl hL f _ hst hK
      · rw [if_neg (by rw [want_sound h hw]; simp)]
        obtain ⟨own', hst⟩ := h.setPlain (Below.refl _ _) (v := .und) (x := undef) rfl rfl y2
        rw [y1]
        exact DT_sound hE hcl hL f _ hst hK

/-- **A region whose order is open but for its stores, which stand last.** -/
theorem tail_sound (hE : EnvOk P E) (hz : ZeroOk P E) (hcl : CallOk P cl) (h : St B w0 own σ a w) {id : Nat} {all : Array Oper} {Q : Exit → Act → World → Prop} {k : List AV → Option R} {r : R} (n : Nat) (hok : Region.lexTailB .any all n = true)
    (hk : goOps E cl true all (all.toList.take n) σ (fun σ' => goOps E cl false all (all.toList.drop n) σ' k) = some r)
    (hQ : ∀ own' σ' a' w', k σ' = some r → St B w0 own' σ' a' w' → Q .normal a' w') : (Code.region id all true).wp P Q a w := by
  simp only [Region.lexTailB, Bool.and_eq_true, decide_eq_true_eq] at hok
  obtain ⟨⟨⟨⟨hsel, hn⟩, hs⟩, hc⟩, hlex⟩ := hok
  obtain ⟨own1, h1⟩ := h.drew
  have htl : (all.toList.take n).length = n := by simp; omega
  have hdl : (all.toList.drop n).length = all.size - n := by simp
  have inv0 : HeadInv .any all n (Array.replicate all.size false) :=
    ⟨by simp, fun j oj _ hl => (by rw [getD_replicate_false] at hl; cases hl), fun t _ ht => getD_in (by simpa using ht) (getD_replicate_false _ _)⟩
  have H := DT_lex (E := E) (cl := cl) (g := all.size - n) (K := fun σ' => goOps E cl false all (all.toList.drop n) σ' k = some r) hs hc hn (all.toList.take n) 0 _ σ (fun j hj => by
    have hj' : j < n := by rw [htl] at hj; exact hj
    simp [hj']) (by simpa using htl) inv0 (by rw [htl]; exact hlex) (lexA_of_goOps _ hk)
  refine wp_region_any hE.wide ?_
  have := DT_sound (B := B) (w0 := w0) hE hcl (Q := Q) (g := all.size - n) (fun listed own' σ' a' w' hL hst => by
    have := wpAny_of_seq (md := .any) (Q' := Q) (all.toList.drop n) n listed a' w' (fun j => by simp [List.getElem?_drop]) (by rw [hdl]; exact hL.1) (goOps_sound hE hz hcl hQ _ hst hL.2)
    rwa [hdl] at this) _ _ h1 H
  rw [htl, show n + (all.size - n) = all.size by omega] at this
  exact this
end
end Go.Proofs.Ytppgjmdncffecaa.Ev
