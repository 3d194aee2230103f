/-
  VCode: code, loops, functions: what the evaluator finds, the program does.
-/
import Derived.Test.YtlnhommmmajllaaGreatVDraw4
import Derived.LoopN
set_option linter.unusedVariables false
namespace Go.Proofs.YtlnhommmmajllaaGreat.Ev
open Go Go.RowKit
section
variable {P : Program} {E : Env} {cl : Calling} {H : Hints} {F : Fi} {lp : Looping} {Y : Nat → Prop} {w0 w w' : World} {m : Nat} {Mp : Mem} {M : Mem} {σ : List AV} {a : Act} {R : Type}
def X.exit : X → Exit
  | .norm => .normal
  | .ret => .ret
  | .out id => .exit id
  | .rest => .normal
def LL (P : Program) (F : Fi) (b : Code) (σ : List AV) (x : X × List AV) : Prop := ∃ n : Nat,
  ∀ (Y : Nat → Prop) (w0 : World) (Mp M : Mem) (a : Act) (w : World) (Q : Exit → Act → World → Prop), St Y w0 F.m Mp F.nv F.nc M σ a w →
    (∀ M' a' w', St Y w0 F.m Mp F.nv F.nc M' x.2 a' w' → Q x.1.exit a' w') → Code.rounds P b Q n a w
def RE (P : Program) (F : Fi) (b : Code) (ex : Exit) (σ σ' : List AV) : Prop :=
  ∀ (Y : Nat → Prop) (w0 : World) (Mp M : Mem) (a : Act) (w : World) (Q : Exit → Act → World → Prop), St Y w0 F.m Mp F.nv F.nc M σ a w →
    (∀ M' a' w', St Y w0 F.m Mp F.nv F.nc M' σ' a' w' → Q ex a' w') → b.wp P Q a w
def RS (P : Program) (F : Fi) (b : Code) (σ σ' : List AV) : Prop := match b with
  | .block _ y => RE P F y .ret σ σ'
  | b => RE P F b .normal σ σ'
def RN (P : Program) (F : Fi) (b : Code) (σ σ' : List AV) : Prop := match b with
  | .block _ y => RE P F y .normal σ σ'
  | _ => False
def LS (P : Program) (F : Fi) (b : Code) (σ : List AV) (x : X × List AV) : Prop := match x.1 with
  | .norm => RS P F b σ x.2
  | .rest => RN P F b σ x.2
  | _ => LL P F b σ x
theorem LS.loop {P : Program} {F : Fi} {b : Code} {σ : List AV} {x : X × List AV} (h : LS P F b σ x) (hx : x.1 ≠ .norm) (hr : x.1 ≠ .rest) : LL P F b σ x := by
  unfold LS at h
  split at h
  · rename_i hn; exact absurd hn hx
  · rename_i hn; exact absurd hn hr
  · exact h
theorem LS.ofLoop {P : Program} {F : Fi} {b : Code} {σ : List AV} {x : X × List AV} (h : LL P F b σ x) (hx : x.1 ≠ .norm) (hr : x.1 ≠ .rest) : LS P F b σ x := by
  unfold LS
  split
  · rename_i hn; exact absurd hn hx
  · rename_i hn; exact absurd hn hr
  · exact h
theorem LS.reg {P : Program} {F : Fi} {b : Code} {σ : List AV} {x : X × List AV} (h : LS P F b σ x) (hx : x.1 = .norm) : RS P F b σ x.2 := by
  unfold LS at h
  rw [hx] at h
  exact h
theorem LS.rest {P : Program} {F : Fi} {b : Code} {σ : List AV} {x : X × List AV} (h : LS P F b σ x) (hx : x.1 = .rest) : RN P F b σ x.2 := by
  unfold LS at h
  rw [hx] at h
  exact h
theorem kLoop_some {R : Type} {r : X × List AV} {k : X → List AV → Option R} {y : R} (h : kLoop r k = some y) : r.1 ≠ .norm ∧ r.1 ≠ .rest ∧ k r.1 r.2 = some y := by
  obtain ⟨x, σ⟩ := r
  cases x with
  | norm => cases h
  | ret => exact ⟨by simp, by simp, h⟩
  | out i => exact ⟨by simp, by simp, h⟩
  | rest => cases h
theorem kReg_some {R : Type} {r : X × List AV} {k : X → List AV → Option R} {y : R} (h : kReg r k = some y) : r.1 = .norm ∧ k .norm r.2 = some y := by
  obtain ⟨x, σ⟩ := r
  cases x with
  | norm => exact ⟨rfl, h⟩
  | ret => cases h
  | out i => cases h
  | rest => cases h
theorem kTail_some {R : Type} {r : X × List AV} {k : X → List AV → Option R} {y : R} (h : kTail r k = some y) : (r.1 = .norm ∧ k .ret r.2 = some y) ∨ (r.1 = .rest ∧ k .norm r.2 = some y) := by
  obtain ⟨x, σ⟩ := r
  cases x with
  | norm => exact .inl ⟨rfl, h⟩
  | ret => cases h
  | out i => cases h
  | rest => exact .inr ⟨rfl, h⟩
def LoopOk (P : Program) (F : Fi) (l : List (Nat × Code)) (lp : Looping) : Prop := ∀ id b σ p r r', (id, b) ∈ l → lp id b σ = some (true, p, r, r') → LS P F b σ (if p then r else r')
def tailsOf (cur : Nat) (b : Code) : List (Nat × Code) := match cur, headR b with
  | 0, some id => [(id + 200000, .block 0 b)]
  | _, _ => []
def loopsOf : Nat → Code → List (Nat × Code)
  | cur, .seq a b => loopsOf cur a ++ (tailsOf cur b ++ loopsOf cur b)
  | cur, .cond _ a b => loopsOf cur a ++ loopsOf cur b
  | _, .block id b => loopsOf id b
  | cur, .loop b => (cur, b) :: loopsOf cur b
  | _, .region id ops true => [(id + 100000, .region id ops true)]
  | _, _ => []
theorem LoopOk.sub {P : Program} {F : Fi} {l l' : List (Nat × Code)} {lp : Looping} (h : LoopOk P F l lp) (hl : ∀ x ∈ l', x ∈ l) : LoopOk P F l' lp := fun id b σ p r r' hm => h id b σ p r r' (hl _ hm)
theorem EC_sound (hE : EnvOk P E) (hcl : CallOk P cl) : ∀ (c : Code) (cur : Nat) (hlp : LoopOk P F (loopsOf cur c) lp) {M : Mem} {σ : List AV} {a : Act} {w : World} {k : X → List AV → Option R} {r : R} {Q : Exit → Act → World → Prop},
    St Y w0 F.m Mp F.nv F.nc M σ a w → EC E cl H F lp cur c σ k = some r → (∀ M' x σ' a' w', k x σ' = some r → St Y w0 F.m Mp F.nv F.nc M' σ' a' w' → Q x.exit a' w') → c.wp P Q a w
  | .skip, ks, hlp, _, _, _, _, _, _, _, h, hk, hQ => wp_skip (hQ _ .norm _ _ _ hk h)
  | .seq x y, ks, hlp, M, σ, a, w, k, r, Q, h, hk, hQ => by
    refine wp_seq (EC_sound hE hcl x ks (hlp.sub fun _ hm => List.mem_append.2 (.inl hm)) h hk fun M' x' σ' a' w' hk' hst => ?_)
    cases x' with
    | norm =>
      simp only [] at hk'
      split at hk'
      · rename_i id hg
        have hgt : ks = 0 ∧ headR y = some id := by
          unfold goesT at hg
          split at hg
          · rename_i id' hh
            split at hg
            · injection hg with hg
              subst hg
              exact ⟨rfl, hh⟩
            · cases hg
          · cases hg
        obtain ⟨rfl, hh⟩ := hgt
        split at hk'
        · rename_i g p r1 r2 hl
          have hk2 : g = true ∧ kTail (if p then r1 else r2) k = some r := by
            rcases br_some hk' with ⟨h1, h2⟩ | ⟨_, h2⟩
            · rcases br_some h2 with ⟨rfl, h4⟩ | ⟨rfl, h4⟩
              · exact ⟨h1, h4⟩
              · exact ⟨h1, h4⟩
            · cases h2
          obtain ⟨rfl, hk2⟩ := hk2
          obtain ⟨M1, hst1⟩ := hst.clear (klOf F (id + 200000)).1
          have hls := hlp (id + 200000) (.block 0 y) _ p r1 r2 (by simp [loopsOf, tailsOf, hh]) hl
          rcases kTail_some hk2 with ⟨hnn, hk2⟩ | ⟨hnn, hk2⟩
          · exact (hls.reg hnn) Y w0 Mp M1 a' w' Q hst1 fun M' a' w' hst => hQ M' .ret _ a' w' hk2 hst
          · exact (hls.rest hnn) Y w0 Mp M1 a' w' Q hst1 fun M' a' w' hst => hQ M' .norm _ a' w' hk2 hst
        · cases hk'
      · exact EC_sound hE hcl y ks (hlp.sub fun _ hm => List.mem_append.2 (.inr (List.mem_append.2 (.inr hm)))) hst hk' hQ
    | ret => exact hQ M' .ret _ _ _ hk' hst
    | out id => exact hQ M' (.out id) _ _ _ hk' hst
    | rest => cases hk'
  | .cond c x y, ks, hlp, M, σ, a, w, k, r, Q, h, hk, hQ => by
    simp only [EC] at hk
    split at hk
    · rename_i t hc
      have hc' : a.eval c = .bool t := eval_sc h hc
      rcases br_some hk with ⟨rfl, h2⟩ | ⟨rfl, h2⟩
      · exact wp_cond_true hc' (EC_sound hE hcl x ks (hlp.sub fun _ hm => List.mem_append.2 (.inl hm)) h h2 hQ)
      · exact wp_cond_false hc' (EC_sound hE hcl y ks (hlp.sub fun _ hm => List.mem_append.2 (.inr hm)) h h2 hQ)
    · cases hk
  | .block id b, ks, hlp, M, σ, a, w, k, r, Q, h, hk, hQ => by
    refine wp_block (EC_sound hE hcl b id hlp h hk fun M' x' σ' a' w' hk' hst => ?_)
    cases x' with
    | norm =>
      obtain ⟨M2, h2⟩ := hst.clear (klOf F id).2.1
      exact hQ M2 .norm _ _ _ hk' h2
    | ret => exact hQ M' .ret _ _ _ hk' hst
    | out i =>
      simp only [X.exit, Exit.inBlock]
      cases hb : Nat.beq i id with
      | true =>
        have hii : i = id := Nat.eq_of_beq_eq_true hb
        simp only [hb] at hk'
        obtain ⟨M2, h2⟩ := hst.clear (klOf F id).2.1
        rw [if_pos hii]
        exact hQ M2 .norm _ _ _ hk' h2
      | false =>
        have hii : i ≠ id := fun e => by subst e; simp at hb
        simp only [hb] at hk'
        rw [if_neg hii]
        exact hQ M' (.out i) _ _ _ hk' hst
    | rest => exact hQ M' .rest _ _ _ hk' hst
  | .loop b, cur, hlp, M, σ, a, w, k, r, Q, h, hk, hQ => by
    simp only [EC] at hk
    split at hk
    · rename_i g p r1 r2 hl
      have hk' : g = true ∧ kLoop (if p then r1 else r2) k = some r := by
        rcases br_some hk with ⟨h1, h2⟩ | ⟨_, h2⟩
        · rcases br_some h2 with ⟨rfl, h3⟩ | ⟨rfl, h3⟩
          · exact ⟨h1, h3⟩
          · exact ⟨h1, h3⟩
        · cases h2
      obtain ⟨rfl, hk2⟩ := hk'
      obtain ⟨hnn, hnr, hk2⟩ := kLoop_some hk2
      obtain ⟨n, hlp⟩ := (hlp cur b _ p r1 r2 List.mem_cons_self hl).loop hnn hnr
      obtain ⟨M1, hst1⟩ := h.clear (klOf F cur).1
      exact wp_loop_rounds n (hlp Y w0 Mp M1 a w Q hst1 fun M' a' w' hst => hQ M' _ _ a' w' hk2 hst)
    · cases hk
  | .exit id, ks, hlp, M, σ, a, w, k, r, Q, h, hk, hQ => wp_exit (hQ _ (.out id) _ _ _ hk h)
  | .ret, ks, hlp, M, σ, a, w, k, r, Q, h, hk, hQ => wp_ret (hQ _ .ret _ _ _ hk h)
  | .region id ops draw, ks, hlp, M, σ, a, w, k, r, Q, h, hk, hQ => by
    simp only [EC] at hk
    cases draw with
    | false =>
      simp only [] at hk
      split at hk
      · exact wp_region_list (goOps_sound rfl hE hcl (fun M' σ' a' w' hk' hst => hQ M' .norm _ _ _ hk' hst) ops.toList 0 h hk)
      · exact wp_region_list (goDeep_sound rfl hE hcl (fun M' σ' a' w' hk' hst => hQ M' .norm _ _ _ hk' hst) _ ops.toList 0 h hk)
    | true =>
      simp only [] at hk
      split at hk
      · split at hk
        · rename_i hok
          exact draw_sound rfl hE hcl h hok hk fun M' σ' a' w' hk' hst => hQ M' .norm _ _ _ hk' hst
        · split at hk
          · split at hk
            · rename_i hok
              exact draw_sound_ord rfl hE hcl h hok hk fun M' σ' a' w' hk' hst => hQ M' .norm _ _ _ hk' hst
            · cases hk
          · cases hk
      · split at hk
        · rename_i g p r1 r2 hl
          have hk' : g = true ∧ p = true ∧ kReg r1 k = some r := by
            rcases br_some hk with ⟨h1, h2⟩ | ⟨_, h2⟩
            · rcases br_some h2 with ⟨h3, h4⟩ | ⟨_, h4⟩
              · exact ⟨h1, h3, h4⟩
              · cases h4
            · cases h2
          obtain ⟨rfl, rfl, hk2⟩ := hk'
          obtain ⟨hnn, hk2⟩ := kReg_some hk2
          obtain ⟨M1, hst1⟩ := h.clear (klOf F (id + 100000)).1
          have hls := hlp (id + 100000) (.region id ops true) _ true r1 r2 (by simp [loopsOf]) hl
          exact (hls.reg hnn) Y w0 Mp M1 a w Q hst1 fun M' a' w' hst => hQ M' .norm _ a' w' hk2 hst
        · cases hk
  | .rangeFunc _ _ _ _, _, _, _, _, _, _, _, _, _, _, hk, _ => by simp [EC] at hk
  | .scope _, _, _, _, _, _, _, _, _, _, _, hk, _ => by simp [EC] at hk
  | .label _, _, _, _, _, _, _, _, _, _, _, hk, _ => by simp [EC] at hk
  | .goto _, _, _, _, _, _, _, _, _, _, _, hk, _ => by simp [EC] at hk
  | .refuse _, _, _, _, _, _, _, _, _, _, _, hk, _ => by simp [EC] at hk
def resSem (tm : Array Value) : ResultVar → Sem Value
  | .tmp t => pure (tm.getD t undef)
  | .cell a t => do loadVar t (← asAddr (tm.getD a undef))
theorem resA_ok (h : St Y w0 m Mp F.nv F.nc M σ a w) (hE : EnvOk P E) {rv : ResultVar} {v : AV} (hv : resA E F σ rv = some v) :
    ∃ x, (resSem a.tmps rv).run P w = .ok x w ∧ GS M w σ 0 v x ∧ ∀ e L, v ≠ .own e L := by
  cases rv with
  | tmp t =>
    simp only [resA, Option.some.injEq] at hv
    subst hv
    exact ⟨_, rfl, h.eval (.tmp t)⟩
  | cell b t =>
    simp only [resA] at hv
    split at hv
    case h_2 => cases hv
    rename_i q hq
    obtain ⟨ad, h1, hl⟩ := h.cellAt hq
    have h1 : a.tmps.getD b undef = .pointer (some ad) := h1
    have hcell := (h.core.cell q ad hl).1
    have hslot := h.core.slot q
    split at hv
    · rename_i ht
      have hrun : (resSem a.tmps (.cell b t)).run P w = .ok (M.tm q) w := by
        simp only [resSem, h1, asAddr, Sem.run_bind, Sem.run_pure, Result.andThen_ok, run_loadVar_one (isAgg_one (hE.one t ht).1) hcell]
      split at hv
      · rename_i e L hs
        injection hv with hv; subst hv
        exact ⟨_, hrun, ⟨by unfold rf; rw [hs]; rfl, rfl⟩, by simp⟩
      · cases hv
      · rename_i n1 n2
        injection hv with hv; subst hv
        have hno : ∀ e L, σ.getD q .u ≠ .own e L := fun e L he => n1 e L he
        exact ⟨_, hrun, hslot.idx hno, hno⟩
    · rename_i s _ hs
      obtain ⟨fd, i, j, e1, e2, e3, e4, e5, e6, _⟩ := hE.gr t s hs
      have hrun : (resSem a.tmps (.cell b t)).run P w = .ok (.agg #[M.tm q]) w := by
        simp only [resSem, h1, asAddr, Sem.run_bind, Sem.run_pure, Result.andThen_ok, run_loadVar_agg1 (isAgg_struct e1) e5 e6 hcell]
      split at hv
      · rename_i e L hs
        injection hv with hv; subst hv
        exact ⟨_, hrun, ⟨by unfold rf; rw [hs]; rfl, rfl⟩, by simp⟩
      · rename_i L hs
        injection hv with hv; subst hv
        rw [hs] at hslot
        obtain ⟨A, c, g1, g2, g3⟩ := hslot
        exact ⟨_, hrun, ⟨A, c, by rw [g1], g2, g3⟩, by simp⟩
      · cases hv
    · cases hv
theorem resAs_ok (h : St Y w0 m Mp F.nv F.nc M σ a w) (hE : EnvOk P E) : ∀ {l : List ResultVar} {vs : List AV}, resAs E F σ l = some vs → ∃ xs : List Value, xs.length = vs.length ∧
    (∀ (i : Nat) v x, vs[i]? = some v → xs[i]? = some x → GS M w σ 0 v x ∧ ∀ e L, v ≠ .own e L) ∧
    (l.mapM (resSem a.tmps)).run P w = .ok xs w ∧ l.length = vs.length
  | [], vs, hv => by
    simp only [resAs, Option.some.injEq] at hv
    subst hv
    exact ⟨[], rfl, fun i v x hv => by simp at hv, rfl, rfl⟩
  | rv :: l, vs, hv => by
    simp only [resAs] at hv
    split at hv
    · rename_i y ys h1 h2
      simp only [Option.some.injEq] at hv
      subst hv
      obtain ⟨x, g1, g2, g3⟩ := resA_ok h hE h1
      obtain ⟨xs, g4, g5, g6, g7⟩ := resAs_ok h hE h2
      refine ⟨x :: xs, by simp [g4], fun i v z hv hz => ?_, ?_, by simp [g7]⟩
      · cases i with
        | zero => simp only [List.getElem?_cons_zero, Option.some.injEq] at hv hz; subst hv hz; exact ⟨g2, g3⟩
        | succ i => exact g5 i v z (by simpa using hv) (by simpa using hz)
      · rw [List.mapM_cons]
        rw [Sem.run_bind, g1]
        simp only [Result.andThen_ok]
        rw [Sem.run_bind, g6]
        simp
    · cases hv
theorem packV_eq (xs : List Value) : (if h : xs.toArray.size = 1 then xs.toArray[0] else .tuple xs.toArray) = packV xs := by
  match xs with
  | [] => rfl
  | [x] => rfl
  | _ :: _ :: _ => simp [packV]
theorem run_results {fn : Func} {tm : Array Value} {xs : List Value} (h : (fn.results.toList.mapM (resSem tm)).run P w = .ok xs w) : (results fn tm).run P w = .ok (packV xs) w := by
  have e : results fn tm = (do
    let vs ← fn.results.mapM (resSem tm)
    pure (if h : vs.size = 1 then vs[0] else .tuple vs)) := rfl
  rw [e, Sem.run_bind, Array.mapM_eq_mapM_toList, map_eq_pure_bind, Sem.run_bind, h]
  simp only [Result.andThen_ok, Sem.run_pure]
  rw [packV_eq]
end
end Go.Proofs.YtlnhommmmajllaaGreat.Ev
