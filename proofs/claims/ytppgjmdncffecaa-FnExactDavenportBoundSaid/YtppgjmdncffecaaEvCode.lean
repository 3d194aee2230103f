/-
  EvCode: code, loops, functions: what the evaluator finds, the program does.
-/
import Derived.Test.YtppgjmdncffecaaEvDraw
import Derived.LoopN
namespace Go.Proofs.Ytppgjmdncffecaa.Ev
open Go Go.RowKit

section
variable {P : Program} {E : Env} {cl : Calling} {lp : Looping} {kl : Nat → List Nat × List Nat × List Nat} {B : Nat} {w0 w : World} {own : Own} {σ : List AV} {a : Act} {R : Type}

def X.exit : X → Exit
  | .norm => .normal
  | .ret => .ret
  | .out id => .exit id

/-- The loops' word: what 'lp' finds of a loop is what the loop does. -/
def LoopOk (P : Program) (lp : Looping) : Prop := ∃ n : Nat,
  ∀ (id : Nat) (b : Code) (σ : List AV) (p : Bool) (r r' : X × List AV), lp id b σ = some (true, p, r, r') →
    ∀ (B : Nat) (w0 : World) (own : Own) (a : Act) (w : World) (Q : Exit → Act → World → Prop), St B w0 own σ a w →
      (∀ own' a' w', St B w0 own' (if p then r else r').2 a' w' → Q (if p then r else r').1.exit a' w') → Code.rounds P b Q n a w

theorem EC_sound (hE : EnvOk P E) (hz : ZeroOk P E) (hcl : CallOk P cl) (hlp : LoopOk P lp) : ∀ (c : Code) (cur : Nat) {own : Own} {σ : List AV} {a : Act} {w : World} {k : X → List AV → Option R} {r : R} {Q : Exit → Act → World → Prop},
    St B w0 own σ a w → EC E cl lp kl cur c σ k = some r → (∀ own' x σ' a' w', k x σ' = some r → St B w0 own' σ' a' w' → Q x.exit a' w') → c.wp P Q a w
  | .skip, ks, _, _, _, _, _, _, _, h, hk, hQ => wp_skip (hQ _ .norm _ _ _ hk h)
  | .seq x y, ks, own, σ, a, w, k, r, Q, h, hk, hQ => by
    refine wp_seq (EC_sound hE hz hcl hlp x ks h hk fun own' x' σ' a' w' hk' hst => ?_)
    cases x' with
    | norm => exact EC_sound hE hz hcl hlp y ks hst hk' hQ
    | ret => exact hQ own' .ret _ _ _ hk' hst
    | out id => exact hQ own' (.out id) _ _ _ hk' hst
  | .cond c x y, ks, own, σ, a, w, k, r, Q, h, hk, hQ => by
    simp only [EC] at hk
    split at hk
    · rename_i t hc
      have hc' : a.eval c = .bool t := eval_sc h hc
      rcases br_some hk with ⟨rfl, h2⟩ | ⟨rfl, h2⟩
      · exact wp_cond_true hc' (EC_sound hE hz hcl hlp x ks h h2 hQ)
      · exact wp_cond_false hc' (EC_sound hE hz hcl hlp y ks h h2 hQ)
    · cases hk
  | .block id b, ks, own, σ, a, w, k, r, Q, h, hk, hQ => by
    refine wp_block (EC_sound hE hz hcl hlp b id h hk fun own' x' σ' a' w' hk' hst => ?_)
    cases x' with
    | norm =>
      obtain ⟨own2, h2⟩ := hst.clear (kl id).2.1
      exact hQ own2 .norm _ _ _ hk' h2
    | ret => exact hQ own' .ret _ _ _ hk' hst
    | out i =>
      simp only [X.exit, Exit.inBlock]
      cases hb : Nat.beq i id with
      | true =>
        have hii : i = id := Nat.eq_of_beq_eq_true hb
        simp only [hb] at hk'
        obtain ⟨own2, h2⟩ := hst.clear (kl id).2.1
        rw [if_pos hii]
        exact hQ own2 .norm _ _ _ hk' h2
      | false =>
        have hii : i ≠ id := fun e => by subst e; simp at hb
        simp only [hb] at hk'
        rw [if_neg hii]
        exact hQ own' (.out i) _ _ _ hk' hst
  | .loop b, cur, own, σ, a, w, k, r, Q, h, hk, hQ => by
    simp only [EC] at hk
    split at hk
    · rename_i g p r1 r2 hl
      have hk' : g = true ∧ k (if p then r1 else r2).1 (if p then r1 else r2).2 = some r := by
        rcases br_some hk with ⟨h1, h2⟩ | ⟨_, h2⟩
        · rcases br_some h2 with ⟨rfl, h3⟩ | ⟨rfl, h3⟩
          · exact ⟨h1, h3⟩
          · exact ⟨h1, h3⟩
        · cases h2
      obtain ⟨rfl, hk2⟩ := hk'
      obtain ⟨n, hlp⟩ := hlp
      obtain ⟨own1, hst1⟩ := h.clear (kl cur).1
      exact wp_loop_rounds n (hlp cur b _ p r1 r2 hl B w0 own1 a w Q hst1 fun own' a' w' hst => hQ own' _ _ a' w' hk2 hst)
    · cases hk
  | .exit id, ks, own, σ, a, w, k, r, Q, h, hk, hQ => wp_exit (hQ _ (.out id) _ _ _ hk h)
  | .ret, ks, own, σ, a, w, k, r, Q, h, hk, hQ => wp_ret (hQ _ .ret _ _ _ hk h)
  | .region id ops draw, ks, own, σ, a, w, k, r, Q, h, hk, hQ => by
    simp only [EC] at hk
    cases draw with
    | false =>
      simp only [] at hk
      split at hk
      · rename_i f o1 o2 hct
        refine wp_region_list ?_
        rw [cellTail_spec hct]
        exact goOps_then hE hz hcl (tail := [o1, o2]) (fun own' σ' a' w' hk' hst => cellOp_sound hE hz hst hk' fun own2 σ2 a2 w2 hk2 hst2 => hQ own2 .norm _ _ _ hk2 hst2) f h hk
      · exact wp_region_list (goOps_sound hE hz hcl (fun own' σ' a' w' hk' hst => hQ own' .norm _ _ _ hk' hst) ops.toList h hk)
    | true =>
      simp only [] at hk
      split at hk
      · rename_i hok
        split at hk
        · exact draw_sound hE hcl h hok hk fun own' σ' a' w' hk' hst => hQ own' .norm _ _ _ hk' hst
        · split at hk
          · rename_i hok2
            exact tail_sound hE hz hcl h _ hok2 hk fun own' σ' a' w' hk' hst => hQ own' .norm _ _ _ hk' hst
          · cases hk
      · split at hk
        · rename_i hok2
          exact tail_sound hE hz hcl h _ hok2 hk fun own' σ' a' w' hk' hst => hQ own' .norm _ _ _ hk' hst
        · cases hk
  | .rangeFunc _ _ _ _, _, _, _, _, _, _, _, _, _, hk, _ => by simp [EC] at hk
  | .scope _, _, _, _, _, _, _, _, _, _, hk, _ => by simp [EC] at hk
  | .label _, _, _, _, _, _, _, _, _, _, hk, _ => by simp [EC] at hk
  | .goto _, _, _, _, _, _, _, _, _, _, hk, _ => by simp [EC] at hk
  | .refuse _, _, _, _, _, _, _, _, _, _, hk, _ => by simp [EC] at hk

/-! ### A function -/
theorem start_length (n : Nat) (args : List AV) (h : args.length ≤ n) : (start n args).length = n := by simp [start]; omega

theorem St.start {fn : Func} {args : List AV} {vs : List Value} (h : Args w args vs) (hn : args.length ≤ fn.ntmps) : St w.heap.size w (fun _ => none) (Ev.start fn.ntmps args) { tmps := vs.toArray ++ Array.replicate (fn.ntmps - vs.toArray.size) undef, defers := [] } w := by
  obtain ⟨hlen, hargs⟩ := h
  refine ⟨Below.refl _ _, Nat.le_refl _, rfl, ?_, (fun _ _ _ h => by cases h), (fun _ _ h => by cases h), ?_⟩
  · simp [Ev.start, hlen]
  · intro t ht
    rw [start_length _ _ hn] at ht
    by_cases hta : t < args.length
    · have e1 : (Ev.start fn.ntmps args).getD t .u = args[t] := by
        simp [Ev.start, List.getD, List.getElem?_append_left hta, hta]
      have hv : t < vs.length := by omega
      have e2 : (vs.toArray ++ Array.replicate (fn.ntmps - vs.toArray.size) undef).getD t undef = vs[t] := by
        simp [Array.getD, Array.getElem_append_left, hv]
        omega
      rw [e1, e2]
      obtain ⟨ha, hg⟩ := hargs t args[t] vs[t] (List.getElem?_eq_getElem hta) (List.getElem?_eq_getElem hv)
      have hX : ∀ b, b < w.heap.size → Xo (fun _ => none) b → False := fun b _ ⟨s, hs⟩ => by cases hs
      have hg' : G w.heap.size w (Xo fun _ => none) args[t] vs[t] := by
        cases hc : args[t] with
        | sc y => rw [hc] at hg; exact hg
        | sl L => rw [hc] at hg; obtain ⟨A, c, h1, h2, h3⟩ := hg; exact ⟨A, c, h1, h2, h3.keep (Agree.refl _ w) hX⟩
        | gr L => rw [hc] at hg; obtain ⟨A, c, h1, h2, h3⟩ := hg; exact ⟨A, c, h1, h2, h3.keep (Agree.refl _ w) hX⟩
        | _ => rw [hc] at ha; simp [isArg] at ha
      exact GS_of_GV (GV_plain hg')
    · have e1 : (Ev.start fn.ntmps args).getD t .u = .und := by
        simp [Ev.start, List.getD, List.getElem?_append_right (Nat.le_of_not_lt hta)]
        rw [List.getElem?_replicate, if_pos (by omega)]
        rfl
      have e2 : (vs.toArray ++ Array.replicate (fn.ntmps - vs.toArray.size) undef).getD t undef = undef := by
        have hv : ¬ t < vs.toArray.size := by simp; omega
        rw [Array.getD_eq_getD_getElem?, Array.getElem?_append_right (by omega)]
        simp only [Array.getElem?_replicate]
        split <;> rfl
      rw [e1, e2]
      rfl

/-! ### What a function hands back -/
theorem RV_ret (h : St B w0 own σ a w) {t : Nat} {p : Nat × AV} (hr : retA σ t = some p) {ow : Own} {i : Nat} (ho : ∀ e L, p.2 = .own e L → ow i = (a.tmps.getD t undef).ownBlock) : RV B w ow i p.2 (a.tmps.getD t undef) := by
  have hlt : σ.getD t .u ≠ .u → t < σ.length := fun hne => by
    rcases Nat.lt_or_ge t σ.length with hl | hl
    · exact hl
    · simp [List.getD, List.getElem?_eq_none hl] at hne
  unfold retA at hr
  split at hr
  · rename_i e L hv
    simp only [Option.some.injEq] at hr
    subst hr
    exact ⟨(own_at h hv).1, ho e L rfl⟩
  · rename_i s hv
    have hs := h.slot t (hlt (by rw [hv]; simp))
    rw [hv] at hs
    obtain ⟨e, L, h1, h2⟩ := hs
    simp only [ownOf, h1, Option.map_some, Option.some.injEq] at hr
    subst hr
    rw [← h2]
    exact ⟨(own_at h h1).1, by rw [ho e L rfl, h2]⟩
  · rename_i e L hv
    have hs := h.slot t (hlt (by rw [hv]; simp))
    rw [hv] at hs
    simp only [Option.some.injEq] at hr
    subst hr
    exact ⟨hs.1, ho e L rfl⟩
  · rename_i y hv
    have hs := h.slot t (hlt (by rw [hv]; simp))
    rw [hv] at hs
    simp only [Option.some.injEq] at hr
    subst hr
    exact hs
  · rename_i L hv
    have hs := h.slot t (hlt (by rw [hv]; simp))
    rw [hv] at hs
    simp only [Option.some.injEq] at hr
    subst hr
    obtain ⟨A, c, h1, h2, h3⟩ := hs
    exact ⟨A, c, h1, h2, h3.keep (Agree.refl _ w) fun _ _ hf => hf.elim⟩
  · rename_i L hv
    have hs := h.slot t (hlt (by rw [hv]; simp))
    rw [hv] at hs
    simp only [Option.some.injEq] at hr
    subst hr
    obtain ⟨A, c, h1, h2, h3⟩ := hs
    exact ⟨A, c, h1, h2, h3.keep (Agree.refl _ w) fun _ _ hf => hf.elim⟩
  · cases hr

/-- Two slices that are handed back lie in rows of their own. -/
theorem ret_apart (h : St B w0 own σ a w) {t t' : Nat} {p p' : Nat × AV} (hr : retA σ t = some p) (hr' : retA σ t' = some p') (hne : p.1 ≠ p'.1) {b : Nat} {e e' : TypeId} {L L' : List Sc} (he : p.2 = .own e L) (he' : p'.2 = .own e' L')
    (hb : (a.tmps.getD t undef).ownBlock = some b) (hb' : (a.tmps.getD t' undef).ownBlock = some b) : False := by
  have hlt : ∀ t, σ.getD t .u ≠ .u → t < σ.length := fun t hne => by
    rcases Nat.lt_or_ge t σ.length with hl | hl
    · exact hl
    · simp [List.getD, List.getElem?_eq_none hl] at hne
  -- whose row is it
  have who : ∀ {t : Nat} {p : Nat × AV}, retA σ t = some p → (∃ e L, p.2 = .own e L) → (a.tmps.getD t undef).ownBlock = some b → (own p.1 = some b) ∨ (p.1 = 1000000 ∧ ¬ Xo own b) := by
    intro t p hr he hb
    unfold retA at hr
    split at hr
    · rename_i e L hv
      simp only [Option.some.injEq] at hr
      subst hr
      exact .inl ((own_at h hv).2.trans hb)
    · rename_i s hv
      have hs := h.slot t (hlt t (by rw [hv]; simp))
      rw [hv] at hs
      obtain ⟨e, L, h1, h2⟩ := hs
      simp only [ownOf, h1, Option.map_some, Option.some.injEq] at hr
      subst hr
      exact .inl ((own_at h h1).2.trans (by rw [h2]; exact hb))
    · rename_i e L hv
      have hs := h.slot t (hlt t (by rw [hv]; simp))
      rw [hv] at hs
      simp only [Option.some.injEq] at hr
      subst hr
      exact .inr ⟨rfl, hs.2 b hb⟩
    · simp only [Option.some.injEq] at hr
      subst hr
      obtain ⟨e, L, he⟩ := he
      cases he
    · simp only [Option.some.injEq] at hr
      subst hr
      obtain ⟨e, L, he⟩ := he
      cases he
    · simp only [Option.some.injEq] at hr
      subst hr
      obtain ⟨e, L, he⟩ := he
      cases he
    · cases hr
  rcases who hr ⟨e, L, he⟩ hb with h1 | ⟨h1, h1'⟩ <;> rcases who hr' ⟨e', L', he'⟩ hb' with h2 | ⟨h2, h2'⟩
  · exact hne (h.inj _ _ b h1 h2)
  · exact h2' ⟨_, h1⟩
  · exact h1' ⟨_, h2⟩
  · exact hne (h1.trans h2.symm)

theorem rets_spec : ∀ (l : List ResultVar) (ps : List (Nat × AV)), rets σ l = some ps → ∃ ts : List Nat, l = ts.map ResultVar.tmp ∧ ts.length = ps.length ∧ (∀ (i t : Nat) (p : Nat × AV), ts[i]? = some t → ps[i]? = some p → retA σ t = some p) ∧
    (∀ (i j : Nat) (p q : Nat × AV), i ≠ j → ps[i]? = some p → ps[j]? = some q → p.1 ≠ q.1)
  | [], ps, h => by
    simp only [rets, Option.some.injEq] at h
    subst h
    exact ⟨[], rfl, rfl, fun i t p h => by simp at h, fun i j p q _ h => by simp at h⟩
  | .cell _ _ :: _, ps, h => by simp [rets] at h
  | .tmp t :: r, ps, h => by
    simp only [rets] at h
    split at h
    · rename_i x xs hx hxs
      split at h
      · cases h
      · rename_i hany
        simp only [Option.some.injEq] at h
        subst h
        obtain ⟨ts, h1, h2, h3, h4⟩ := rets_spec r xs hxs
        have hno : ∀ q, q ∈ xs → x.1 ≠ q.1 := fun q hq e => by
          have : xs.any (fun y => Nat.beq x.1 y.1) = true := List.any_eq_true.2 ⟨q, hq, by rw [e]; exact Nat.beq_refl _⟩
          rw [this] at hany
          cases hany
        refine ⟨t :: ts, by simp [h1], by simp [h2], ?_, ?_⟩
        · intro i t' p ht hp
          cases i with
          | zero =>
            simp only [List.getElem?_cons_zero, Option.some.injEq] at ht hp
            subst ht hp
            exact hx
          | succ i => exact h3 i t' p (by simpa using ht) (by simpa using hp)
        · intro i j p q hij hp hq
          cases i with
          | zero =>
            cases j with
            | zero => exact absurd rfl hij
            | succ j =>
              simp only [List.getElem?_cons_zero, Option.some.injEq] at hp
              subst hp
              exact hno q (List.mem_of_getElem? (by simpa using hq))
          | succ i =>
            cases j with
            | zero =>
              simp only [List.getElem?_cons_zero, Option.some.injEq] at hq
              subst hq
              exact fun e => hno p (List.mem_of_getElem? (by simpa using hp)) e.symm
            | succ j => exact h4 i j p q (by omega) (by simpa using hp) (by simpa using hq)
    · cases h

theorem run_results {fn : Func} {ts : List Nat} (h : fn.results.toList = ts.map ResultVar.tmp) (h4 : ts.length ≤ 4) (tm : Array Value) : (results fn tm).run P w = .ok (packV (ts.map fun t => tm.getD t undef)) w := by
  have h' : fn.results = (ts.map ResultVar.tmp).toArray := Array.toList_inj.1 (by simpa using h)
  match ts, h4 with
  | [], _ => simp [results, h', packV]
  | [t1], _ => simp [results, h', packV]
  | [t1, t2], _ => simp [results, h', packV]
  | [t1, t2, t3], _ => simp [results, h', packV]
  | [t1, t2, t3, t4], _ => simp [results, h', packV]
  | _ :: _ :: _ :: _ :: _ :: _, h => simp at h

theorem runFn_sound (hE : EnvOk P E) (hz : ZeroOk P E) (hcl : CallOk P cl) (hlp : LoopOk P lp) {f : FuncId} {fn : Func} (hf : P.funcs[f]? = some fn) {args rs : List AV} (h : runFn E cl lp kl fn args = some rs) {vs : List Value} (ha : Args w args vs) :
    fn.body.isSome = true ∧ Calls P f vs.toArray w fun e w' => ∃ xs, e = .returned (packV xs) ∧ RetOk w.heap.size w' rs xs ∧ Below w.heap.size w w' := by
  unfold runFn at h
  split at h
  · cases h
  · rename_i c hb
    split at h
    · cases h
    · rename_i hchk
      simp only [Bool.and_eq_true] at hchk
      obtain ⟨_, h1, h2⟩ := hchk
      have h1 : args.length ≤ fn.ntmps := Nat.le_of_ble_eq_true h1
      have h2 : fn.results.toList.length ≤ 4 := Nat.le_of_ble_eq_true h2
      refine ⟨by rw [hb]; rfl, calls_of_wp hf hb (EC_sound hE hz hcl hlp c 0 (St.start ha h1) h ?_)⟩
      have fin : ∀ {own' : Own} {σ' : List AV} {a' : Act} {w' : World}, (rets σ' fn.results.toList).map (·.map (·.2)) = some rs → St w.heap.size w own' σ' a' w' →
          a'.defers = [] ∧ ∃ v, (results fn a'.tmps).run P w' = .ok v w' ∧ ∃ xs, Ending.returned v = .returned (packV xs) ∧ RetOk w.heap.size w' rs xs ∧ Below w.heap.size w w' := by
        intro own' σ' a' w' hk hst
        simp only [Option.map_eq_some_iff] at hk
        obtain ⟨ps, hps, rfl⟩ := hk
        obtain ⟨ts, e1, e2, e3, e4⟩ := rets_spec _ _ hps
        have e5 : ts.length ≤ 4 := by rw [e1] at h2; simpa using h2
        refine ⟨hst.dfr, _, run_results e1 e5 _, _, rfl, ⟨by simp [e2], fun i => match ts[i]?, ps[i]? with
          | some t, some (_, .own _ _) => (a'.tmps.getD t undef).ownBlock
          | _, _ => none, ?_, ?_⟩, hst.bel⟩
        · intro i j b hi hj
          apply Classical.byContradiction
          intro hij
          have get : ∀ (i : Nat), (match ts[i]?, ps[i]? with
              | some t, some (_, AV.own _ _) => (a'.tmps.getD t undef).ownBlock
              | _, _ => none) = some b → ∃ t n e L, ts[i]? = some t ∧ ps[i]? = some (n, AV.own e L) ∧ (a'.tmps.getD t undef).ownBlock = some b := by
            intro i hi
            split at hi
            · rename_i t n e L h3 h4
              exact ⟨t, n, e, L, h3, h4, hi⟩
            · cases hi
          obtain ⟨t1, n1, e1', L1, a1, a2, a3⟩ := get i hi
          obtain ⟨t2, n2, e2', L2, b1, b2, b3⟩ := get j hj
          exact ret_apart hst (e3 i t1 _ a1 a2) (e3 j t2 _ b1 b2) (e4 i j _ _ hij a2 b2) rfl rfl a3 b3
        · intro i r x hr hx
          simp only [List.getElem?_map, Option.map_eq_some_iff] at hr hx
          obtain ⟨p, hp, rfl⟩ := hr
          obtain ⟨t, ht, rfl⟩ := hx
          refine RV_ret hst (e3 i t p ht hp) fun e L he => ?_
          obtain ⟨n, q⟩ := p
          simp only at he
          subst he
          simp only [ht, hp]
      intro own' x σ' a' w' hk hst
      cases x with
      | norm => exact fin hk hst
      | ret => exact fin hk hst
      | out id => cases hk

/-- What is taken from outside. -/
structure SetupOk (S : Setup) : Prop where
  env : EnvOk S.P S.E
  zero : ZeroOk S.P S.E
  ext : CallOk S.P S.ext

theorem run_sound {S : Setup} (hS : SetupOk S) : ∀ n, CallOk S.P (run S n).1 ∧ ∀ f, LoopOk S.P ((run S n).2 f)
  | 0 => ⟨hS.ext, fun f => ⟨0, fun id b σ p r r' h => by cases h⟩⟩
  | n + 1 => by
    obtain ⟨hc, hl⟩ := run_sound hS n
    refine ⟨fun f args rs h => ?_, fun f => ?_⟩
    · simp only [run] at h
      split at h
      · rename_i r hr
        simp only [Option.some.injEq] at h
        subst h
        exact hS.ext f args rs hr
      · split at h
        · cases h
        · rename_i fn hf
          simp only [Option.map_eq_some_iff, sure, Prod.mk.injEq, true_and] at h
          obtain ⟨rs', h, rfl⟩ := h
          have key := fun (w : World) (vs : List Value) (ha : Args w args vs) => runFn_sound hS.env hS.zero hc (hl f) hf h ha
          refine ⟨⟨fn, hf, ?_⟩, fun vs w ha => (key w vs ha).2⟩
          unfold runFn at h
          split at h
          · cases h
          · rename_i c hb; rw [hb]; rfl
    · obtain ⟨m, hm⟩ := hl f
      refine ⟨m + 1, fun id b σ p r r' h B w0 own a w Q hst hQ => ?_⟩
      simp only [run] at h
      rw [rounds_succ]
      refine EC_sound hS.env hS.zero hc (hl f) b id hst h fun own' x' σ' a' w' hk hst' => ?_
      cases x' with
      | norm =>
        obtain ⟨own1, hst1⟩ := hst'.clear (S.kl f id).1
        exact hm id b _ p r r' hk B w0 own1 a' w' Q hst1 hQ
      | ret =>
        simp only [sureL, Option.some.injEq, Prod.mk.injEq, true_and] at hk
        obtain ⟨rfl, rfl, rfl⟩ := hk
        obtain ⟨own1, hst1⟩ := hst'.clear (S.kl f id).2.2
        exact hQ own1 a' w' hst1
      | out i =>
        simp only [sureL, Option.some.injEq, Prod.mk.injEq, true_and] at hk
        obtain ⟨rfl, rfl, rfl⟩ := hk
        obtain ⟨own1, hst1⟩ := hst'.clear (S.kl f id).2.1
        exact hQ own1 a' w' hst1
end
end Go.Proofs.Ytppgjmdncffecaa.Ev
