/-
  VSt: a frame's slots; the evaluator's operations are the model's.
-/
import Derived.Test.YtlnhommmmajllaaGreatVMove
set_option linter.unusedVariables false
namespace Go.Proofs.YtlnhommmmajllaaGreat.Ev
open Go Go.RowKit
structure Kept (Y : Nat → Prop) (w w' : World) : Prop where
  os : w'.os = w.os
  tape : w'.tape = w.tape
  output : w'.output = w.output
  size : w.heap.size ≤ w'.heap.size
  block : ∀ b, b < w.heap.size → ¬ Y b → w'.heap[b]? = w.heap[b]?
theorem Kept.refl (Y : Nat → Prop) (w : World) : Kept Y w w := ⟨rfl, rfl, rfl, Nat.le_refl _, fun _ _ _ => rfl⟩
theorem Kept.of_below {Y : Nat → Prop} {w w' : World} (h : Below w.heap.size w w') : Kept Y w w' := ⟨h.os, h.tape, h.output, h.size, fun b hb _ => h.block b hb⟩
theorem Kept.trans {Y Z : Nat → Prop} {a b c : World} (h : Kept Y a b) (k : Kept Z b c) (hz : ∀ x, x < a.heap.size → Z x → Y x) : Kept Y a c :=
  ⟨k.os.trans h.os, k.tape.trans h.tape, k.output.trans h.output, Nat.le_trans h.size k.size, fun x hx hy => (k.block x (Nat.lt_of_lt_of_le hx h.size) fun hz' => hy (hz x hx hz')).trans (h.block x hx hy)⟩
theorem Kept.setCell (w : World) (a : Addr) (v : Value) : Kept (fun b => b = a.block) w (w.setCell a v) := ⟨rfl, rfl, rfl, by rw [size_setCell]; exact Nat.le_refl _, fun b _ hb => heap_set_ne w a v hb⟩
theorem Kept.of_grown {w w' : World} {row : Option Nat} (h : w.grownBy w' row) : Kept (fun b => row = some b) w w' := ⟨h.os, h.tape, h.output, h.size, fun b hb hn => h.block b hb fun e => hn e.symm⟩
structure Stays (m : Nat) (M M' : Mem) : Prop where
  loc : ∀ k, k < m → M'.loc k = M.loc k
  tm : ∀ k, k < m → M.loc k = none → M'.tm k = M.tm k
  own : ∀ k ad, k < m → M.loc k = some ad → M'.ow ad.block = M.ow ad.block
  fo : M'.fo = M.fo
  fn : M'.fn = M.fn
theorem Stays.refl (m : Nat) (M : Mem) : Stays m M M := ⟨fun _ _ => rfl, fun _ _ _ => rfl, fun _ _ _ _ => rfl, rfl, rfl⟩
theorem Stays.trans {m : Nat} {A B C : Mem} (h : Stays m A B) (g : Stays m B C) : Stays m A C :=
  ⟨fun k hk => (g.loc k hk).trans (h.loc k hk), fun k hk hn => (g.tm k hk ((h.loc k hk).trans hn)).trans (h.tm k hk hn), fun k ad hk hl => (g.own k ad hk ((h.loc k hk).trans hl)).trans (h.own k ad hk hl), g.fo.trans h.fo, g.fn.trans h.fn⟩
theorem Stays.upd {m d : Nat} {M : Mem} {x : Value} {ow' : Nat → Option Key} (hd : m ≤ d) (ho : ∀ k ad, M.loc k = some ad → ow' ad.block = M.ow ad.block) : Stays m M (M.upd d x ow') :=
  ⟨fun _ _ => rfl, fun k hk _ => if_neg (by omega), fun k ad _ hl => ho k ad hl, rfl, rfl⟩
theorem Stays.ow {m : Nat} {M : Mem} {ow' : Nat → Option Key} (ho : ∀ k ad, M.loc k = some ad → ow' ad.block = M.ow ad.block) : Stays m M { M with ow := ow' } :=
  ⟨fun _ _ => rfl, fun _ _ _ => rfl, fun k ad _ hl => ho k ad hl, rfl, rfl⟩
structure St (Y : Nat → Prop) (w0 : World) (m : Nat) (Mp : Mem) (nv nc : Nat) (M : Mem) (σ : List AV) (a : Act) (w : World) : Prop where
  core : Core σ M w
  kept : Kept Y w0 w
  may : ∀ b q, M.ow b = some q → Y b ∨ w0.heap.size ≤ b
  new : ∀ b, w0.heap.size ≤ b → M.fn b
  dfr : a.defers = []
  len : σ.length = nv + a.tmps.size
  tmp : ∀ t, t < a.tmps.size → M.tm (nv + t) = a.tmps.getD t undef
  loc : ∀ k ad, M.loc k = some ad → k < nc
  ncl : nc ≤ nv
  mcl : m ≤ nc
  stay : Stays m Mp M
section
variable {Y : Nat → Prop} {w0 w w' : World} {m : Nat} {Mp : Mem} {nv nc : Nat} {M M' : Mem} {σ σ' : List AV} {a a' : Act}
theorem St.fresh (h : St Y w0 m Mp nv nc M σ a w) (b : Nat) (hb : w.heap.size ≤ b) : M.fn b := h.new b (Nat.le_trans h.kept.size hb)
theorem St.go (h : St Y w0 m Mp nv nc M σ a w) {Z : Nat → Prop} (hc : Core σ' M' w') (hk : Kept Z w w') (hz : ∀ b, Z b → ∃ q, M.ow b = some q) (hm : ∀ b q, M'.ow b = some q → (∃ q', M.ow b = some q') ∨ w.heap.size ≤ b) (hs : Stays m M M')
    (hd : a'.defers = a.defers) (hsz : a'.tmps.size = a.tmps.size) (hl : σ'.length = σ.length) (ht : ∀ t, t < a.tmps.size → M'.tm (nv + t) = a'.tmps.getD t undef) (hloc : ∀ k ad, M'.loc k = some ad → k < nc) : St Y w0 m Mp nv nc M' σ' a' w' := by
  refine ⟨hc, h.kept.trans hk fun x hx hZ => ?_, fun b q hb => ?_, fun b hb => by rw [hs.fn]; exact h.new b hb, hd.trans h.dfr, by rw [hl, hsz]; exact h.len, fun t h' => ht t (by rw [← hsz]; exact h'), hloc, h.ncl, h.mcl, h.stay.trans hs⟩
  · obtain ⟨q, hq⟩ := hz x hZ
    rcases h.may x q hq with h' | h'
    · exact h'
    · omega
  · rcases hm b q hb with ⟨q', hq'⟩ | h'
    · exact h.may b q' hq'
    · exact .inr (Nat.le_trans h.kept.size h')
theorem St.locT (h : St Y w0 m Mp nv nc M σ a w) (t : Nat) : M.loc (nv + t) = none := by
  cases hl : M.loc (nv + t) with
  | none => rfl
  | some ad => have := h.loc _ _ hl; have := h.ncl; omega
theorem St.below (h : St Y w0 m Mp nv nc M σ a w) (d : Nat) : m ≤ nv + d := Nat.le_trans (Nat.le_trans h.mcl h.ncl) (Nat.le_add_right _ _)
theorem tmp_put (h : St Y w0 m Mp nv nc M σ a w) (d : Nat) (x : Value) (ow' : Nat → Option Key) : ∀ t, t < a.tmps.size → (M.upd (nv + d) x ow').tm (nv + t) = (a.put (some d) x).tmps.getD t undef := by
  intro t ht
  show (if nv + t = nv + d then x else M.tm (nv + t)) = _
  by_cases hd : t = d
  · subst hd
    rw [if_pos rfl]
    exact (agetD_set_same _ _ _ _ ht).symm
  · rw [if_neg (by omega), h.tmp t ht]
    exact (agetD_set_other _ _ _ _ _ (Ne.symm hd)).symm
theorem St.setNew (h : St Y w0 m Mp nv nc M σ a w) (hg : Below w.heap.size w w') {v : AV} {x : Value} (hv : NV M w w' σ v x) (d : Nat) : ∃ M', St Y w0 m Mp nv nc M' (setA σ (nv + d) v) (a.put (some d) x) w' := by
  obtain ⟨ow', hc, hm, ho⟩ := h.core.putNew hg hv (nv + d) (h.locT d) h.fresh
  exact ⟨_, h.go hc (Kept.of_below hg (Y := fun _ => False)) (fun _ hf => hf.elim) hm (Stays.upd (h.below d) ho) rfl (by simp [Act.put]) (setA_length _ _ _) (tmp_put h d x ow') h.loc⟩
theorem St.put (h : St Y w0 m Mp nv nc M σ a w) (hg : Below w.heap.size w w') {v : AV} {x : Value} (hv : NV M w w' σ v x) (d : Option Tmp) : ∃ M', St Y w0 m Mp nv nc M' (put nv σ d v) (a.put d x) w' := by
  cases d with
  | some d => exact h.setNew hg hv d
  | none => exact ⟨M, h.go (h.core.grow hg) (Kept.of_below hg (Y := fun _ => False)) (fun _ hf => hf.elim) (fun b q hb => .inl ⟨q, hb⟩) (Stays.refl _ _) rfl rfl rfl h.tmp h.loc⟩
theorem St.drew (h : St Y w0 m Mp nv nc M σ a w) : ∃ M', St Y w0 m Mp nv nc M' σ a { w with drawn := w.drawn + 1 } := h.put (Below.refl _ _).drew (v := .u) (x := undef) trivial none
theorem Core.clear1 (h : Core σ M w) (s : Nat) : Core (setA σ s .u) (M.upd s (M.tm s) M.ow) w :=
  Core.put h s .u (M.tm s) M.ow (fun _ _ hf => ⟨rfl, hf.2⟩) (fun _ _ _ _ _ hp => ⟨rfl, hp⟩) (fun k ad hk => by obtain ⟨h1, h2, _⟩ := h.cell k ad hk; refine ⟨?_, h2, rfl⟩; rw [h1]; split <;> simp_all) (fun b q hb => h.low b q hb) (fun _ => trivial)
theorem St.clear1 (h : St Y w0 m Mp nv nc M σ a w) (s : Nat) : ∃ M', St Y w0 m Mp nv nc M' (Ev.clear1 σ s) a w :=
  ⟨_, h.go (h.core.clear1 s) (Kept.refl (fun _ => False) w) (fun _ hf => hf.elim) (fun b q hb => .inl ⟨q, hb⟩) ⟨fun _ _ => rfl, fun k _ _ => (by show (if k = s then M.tm s else M.tm k) = _; split <;> simp_all), fun _ _ _ _ => rfl, rfl, rfl⟩ rfl rfl (setA_length _ _ _) (fun t ht => by
    show (if nv + t = s then M.tm s else M.tm (nv + t)) = _
    by_cases e : nv + t = s
    · rw [if_pos e, ← e]; exact h.tmp t ht
    · rw [if_neg e]; exact h.tmp t ht) h.loc⟩
theorem St.clears : ∀ (ks : List Nat) {M : Mem} {σ : List AV}, St Y w0 m Mp nv nc M σ a w → ∃ M', St Y w0 m Mp nv nc M' (ks.foldl Ev.clear1 σ) a w
  | [], M, _, h => ⟨M, h⟩
  | s :: ks, _, _, h => by
    obtain ⟨M', h'⟩ := h.clear1 s
    exact St.clears ks h'
theorem clear1_at (pre σ : List AV) (v : AV) (hv : refable v = false) : Ev.clear1 (pre ++ v :: σ) pre.length = (pre ++ [.u]) ++ σ := by
  have hk : Ev.killV pre.length (pre ++ v :: σ) = pre ++ v :: σ := by
    unfold Ev.killV
    have : (pre ++ v :: σ).getD pre.length .u = v := by simp [List.getD]
    rw [this]
    cases v <;> first | rfl | cases hv
  unfold Ev.clear1 setA
  rw [hk]
  have : dropV pre.length AV.u = .u := rfl
  rw [this, List.set_append_right _ _ (Nat.le_refl _), Nat.sub_self, List.set_cons_zero, List.append_assoc]
  rfl
theorem St.setU : ∀ (σ : List AV) (ks : List Nat) (pre : List AV) {M : Mem}, St Y w0 m Mp nv nc M (pre ++ σ) a w → ∃ M', St Y w0 m Mp nv nc M' (pre ++ Ev.setU ks pre.length σ) a w
  | [], ks, pre, M, h => ⟨M, by cases ks <;> exact h⟩
  | v :: σ, [], pre, M, h => ⟨M, h⟩
  | v :: σ, k :: ks, pre, M, h => by
    unfold Ev.setU
    have next : ∀ (x : AV) (ks' : List Nat) {M : Mem}, St Y w0 m Mp nv nc M (pre ++ x :: σ) a w → ∃ M', St Y w0 m Mp nv nc M' (pre ++ x :: Ev.setU ks' (pre.length + 1) σ) a w := fun x ks' M hx => by
      have e : ∀ l : List AV, pre ++ x :: l = (pre ++ [x]) ++ l := fun l => by simp
      rw [e] at hx
      obtain ⟨M', h'⟩ := St.setU σ ks' (pre ++ [x]) hx
      rw [List.length_append, List.length_singleton, ← e] at h'
      exact ⟨M', h'⟩
    cases hb : Nat.beq k pre.length with
    | false => exact next v (k :: ks) h
    | true =>
      cases hr : refable v with
      | true => exact next v ks h
      | false =>
        obtain ⟨M1, h1⟩ := h.clear1 pre.length
        rw [clear1_at pre σ v hr] at h1
        have e : (pre ++ [AV.u]) ++ σ = pre ++ AV.u :: σ := by simp
        rw [e] at h1
        exact next .u ks h1
theorem St.clear (ks : List Nat) {M : Mem} {σ : List AV} (h : St Y w0 m Mp nv nc M σ a w) : ∃ M', St Y w0 m Mp nv nc M' (Ev.clear ks σ) a w := by
  obtain ⟨M1, h1⟩ := St.clears (rowsIn ks 0 σ) h
  exact St.setU _ ks [] h1
theorem St.eval (h : St Y w0 m Mp nv nc M σ a w) (x : Operand) : GS M w σ 0 (evalO nv σ x) (a.eval x) ∧ ∀ e L, evalO nv σ x ≠ .own e L := by
  cases x with
  | tmp t =>
    simp only [evalO, Act.eval]
    by_cases ht : t < a.tmps.size
    · have hs := h.core.slot (nv + t)
      rw [h.tmp t ht] at hs
      cases hv : σ.getD (nv + t) .u with
      | own e L => exact ⟨⟨by unfold rf; rw [hv]; rfl, (h.tmp t ht).symm⟩, by simp⟩
      | _ => rw [hv] at hs; exact ⟨hs, by simp⟩
    · have hge : σ.length ≤ nv + t := by
        have h1 := h.len
        have h2 := Nat.le_of_not_lt ht
        rw [h1]
        exact Nat.add_le_add_left h2 nv
      rw [getD_ge hge]
      exact ⟨trivial, by simp⟩
  | const v =>
    simp only [evalO, Act.eval]
    unfold constAV
    split
    · exact ⟨rfl, by simp⟩
    · exact ⟨rfl, by simp⟩
    · exact ⟨rfl, by simp⟩
    · exact ⟨⟨none, 0, rfl, Nat.le_refl _, .inl rfl⟩, by simp⟩
    · exact ⟨trivial, by simp⟩
  | global g => exact ⟨trivial, by simp [evalO]⟩
  | func f => exact ⟨⟨[], rfl, rfl, fun i y z hy => by simp at hy⟩, by simp [evalO]⟩
theorem St.evalN (h : St Y w0 m Mp nv nc M σ a w) (x : Operand) : NV M w w σ (evalO nv σ x) (a.eval x) := NV_of (h.eval x).2 (h.eval x).1
theorem eval_p (h : St Y w0 m Mp nv nc M σ a w) {x : Operand} {y : Pv} (hx : evalO nv σ x = .p y) : GP M w σ y (a.eval x) := by
  have := (h.eval x).1
  rw [hx] at this
  exact this
theorem eval_sc (h : St Y w0 m Mp nv nc M σ a w) {x : Operand} {y : Sc} (hx : evalO nv σ x = .p (.sc y)) : a.eval x = y.val := eval_p h hx
theorem ownOf_both {s : Nat} {e : TypeId} {L : List Sc} (h : ownOf σ s = some (e, L)) : σ.getD s .u = .own e L ∧ dp e = false := by
  unfold ownOf at h
  split at h
  · rename_i e' L' he
    split at h
    · cases h
    · rename_i hd
      simp only [Option.some.injEq, Prod.mk.injEq] at h
      rw [he, h.1, h.2]
      exact ⟨rfl, h.1 ▸ hd⟩
  · cases h
theorem ownOf_eq {s : Nat} {e : TypeId} {L : List Sc} (h : ownOf σ s = some (e, L)) : σ.getD s .u = .own e L := (ownOf_both h).1
theorem ownOf_dp {s : Nat} {e : TypeId} {L : List Sc} (h : ownOf σ s = some (e, L)) : dp e = false := (ownOf_both h).2
theorem ownAny_eq {s : Nat} {e : TypeId} {L : List Sc} (h : ownAny σ s = some (e, L)) : σ.getD s .u = .own e L := by
  unfold ownAny at h
  split at h
  · rename_i e' L' he
    simp only [Option.some.injEq, Prod.mk.injEq] at h
    rw [he, h.1, h.2]
  · cases h
theorem ownD_both {s : Nat} {e : TypeId} {L : List Sc} (h : ownD σ s = some (e, L)) : σ.getD s .u = .own e L ∧ dp e = true := by
  unfold ownD at h
  split at h
  · rename_i e' L' he
    split at h
    · rename_i hd
      simp only [Option.some.injEq, Prod.mk.injEq] at h
      rw [he, h.1, h.2]
      exact ⟨rfl, h.1 ▸ hd⟩
    · cases h
  · cases h
theorem own_any (h : Core σ M w) {s : Nat} {e : TypeId} {L : List Sc} (hs : σ.getD s .u = .own e L) : RowO M w s e (M.tm s) L := by
  have := h.slot s
  rw [hs] at this
  exact this
theorem own_deep (h : Core σ M w) {s : Nat} {e : TypeId} {L : List Sc} (hs : ownD σ s = some (e, L)) : DO M.ow w s (dep (ud e)) [] e (M.tm s) L := (RowO.deep (ownD_both hs).2).1 (own_any h (ownD_both hs).1)
theorem own_at (h : Core σ M w) {s : Nat} {e : TypeId} {L : List Sc} (hs : σ.getD s .u = .own e L) (hd : dp e = false) : Row w M.fz 0 e (M.tm s) L ∧ ∀ b, (M.tm s).ownBlock = some b → M.ow b = some (.r s []) := by
  have := h.slot s
  rw [hs] at this
  exact (RowO.flat hd).1 this
theorem cellsL_eq {e : TypeId} {L L' : List Sc} (h : cellsL (e, L) = some L') : isN e = false ∧ L = L' := by
  unfold cellsL at h
  cases he : isN e with
  | false => simp only [he, Option.some.injEq] at h; exact ⟨rfl, h⟩
  | true => simp [he] at h
theorem cellsN_eq {e : TypeId} {d : Nat} {L L' : List Sc} (h : cellsN (e, L) = some (d, L')) : isN e = true ∧ dep e = d ∧ L = L' := by
  unfold cellsN at h
  cases he : isN e with
  | true => simp only [he, Option.some.injEq, Prod.mk.injEq] at h; exact ⟨rfl, h⟩
  | false => simp [he] at h
theorem own_read (h : Core σ M w) {s : Nat} {e : TypeId} {L : List Sc} (hs : σ.getD s .u = .own e L) (hd : dp e = false) {Z : Nat → Prop} (hZ : ∀ b, b < w.heap.size → M.fz b → Z b) (hX : ∀ b, (M.tm s).ownBlock = some b → Z b) : ∃ A c, M.tm s = .slice A L.length c ∧ L.length ≤ c ∧ RdN w Z A L ∧ wfL (dep e) L = true := by
  have h3 := (own_at h hs hd).1
  obtain ⟨A, c, h4⟩ := h3.slice
  rw [h4] at h3 hX
  obtain ⟨_, h5, h6, h7⟩ := h3.read (Z := Z) (fun _ => hZ) hX
  exact ⟨A, c, h4, h5, h6, h7⟩
theorem fr_read (h : Core σ M w) {t : Nat} {e : TypeId} {L : List Sc} {x : Value} (hx : GS M w σ t (.fr e L) x) : ∃ A c, x = .slice A L.length c ∧ L.length ≤ c ∧ RdN w M.fz A L ∧ wfL (dep e) L = true := by
  obtain ⟨h1, h2⟩ := hx
  obtain ⟨A, c, rfl⟩ := h1.slice
  obtain ⟨_, h4, h5, h6⟩ := h1.read (Z := M.fz) (fun _ _ _ hf => hf) fun b hb => ⟨h.sub b (h2 b hb).1, (h2 b hb).2⟩
  exact ⟨A, c, rfl, h4, h5, h6⟩
theorem RdN.any {w : World} {Z : Nat → Prop} {A : Option Addr} {L : List Sc} (h : RdN w Z A L) : RdN w (fun _ => True) A L := h.keep fun _ _ _ => ⟨rfl, trivial⟩
theorem list_of (h : St Y w0 m Mp nv nc M σ a w) {x : Operand} {L : List Sc} (hx : listOf σ (evalO nv σ x) = some L) : ∃ A c, a.eval x = .slice A L.length c ∧ L.length ≤ c ∧ Rd w (fun _ => True) A L := by
  have hev := (h.eval x).1
  cases hv : evalO nv σ x with
  | p y =>
    rw [hv] at hx hev
    cases y with
    | sl L' =>
      simp only [listOf, Option.some.injEq] at hx
      subst hx
      obtain ⟨A, c, h1, h2, h3⟩ := hev
      exact ⟨A, c, h1, h2, h3.keep fun _ _ _ => ⟨rfl, trivial⟩⟩
    | al s =>
      obtain ⟨_, h2⟩ := hev
      simp only [listOf] at hx
      cases ho : ownOf σ s with
      | none => rw [ho] at hx; cases hx
      | some eL =>
        obtain ⟨e, L'⟩ := eL
        rw [ho] at hx
        obtain ⟨he, rfl⟩ := cellsL_eq hx
        obtain ⟨A, c, h4, h5, h6, h7⟩ := own_read h.core (ownOf_eq ho) (ownOf_dp ho) (Z := fun _ => True) (fun _ _ _ => trivial) (fun _ _ => trivial)
        rw [(dep_zero he).1] at h7
        exact ⟨A, c, h2.trans h4, h5, Rd_of h6 h7⟩
    | _ => simp [listOf] at hx
  | fr e L' =>
    rw [hv] at hx hev
    obtain ⟨he, rfl⟩ := cellsL_eq hx
    obtain ⟨A, c, h3, h4, h5, h6⟩ := fr_read h.core hev
    rw [(dep_zero he).1] at h6
    exact ⟨A, c, h3, h4, Rd_of h5.any h6⟩
  | _ => rw [hv] at hx; simp [listOf] at hx
theorem list_nl (h : St Y w0 m Mp nv nc M σ a w) {x : Operand} {d : Nat} {L : List Sc} (hx : listN σ (evalO nv σ x) = some (d, L)) : ∃ A c, a.eval x = .slice A L.length c ∧ L.length ≤ c ∧ RdN w (fun _ => True) A L ∧ wfL d L = true := by
  have hev := (h.eval x).1
  cases hv : evalO nv σ x with
  | p y =>
    rw [hv] at hx hev
    cases y with
    | nl d' L' =>
      simp only [listN, Option.some.injEq, Prod.mk.injEq] at hx
      obtain ⟨rfl, rfl⟩ := hx
      obtain ⟨A, c, h1, h2, h3, h4⟩ := hev
      exact ⟨A, c, h1, h2, h3.any, h4⟩
    | al s =>
      obtain ⟨_, h2⟩ := hev
      simp only [listN] at hx
      cases ho : ownOf σ s with
      | none => rw [ho] at hx; cases hx
      | some eL =>
        obtain ⟨e, L'⟩ := eL
        rw [ho] at hx
        obtain ⟨he, rfl, rfl⟩ := cellsN_eq hx
        obtain ⟨A, c, h4, h5, h6, h7⟩ := own_read h.core (ownOf_eq ho) (ownOf_dp ho) (Z := fun _ => True) (fun _ _ _ => trivial) (fun _ _ => trivial)
        exact ⟨A, c, h2.trans h4, h5, h6, h7⟩
    | _ => simp [listN] at hx
  | fr e L' =>
    rw [hv] at hx hev
    obtain ⟨he, rfl, rfl⟩ := cellsN_eq hx
    obtain ⟨A, c, h3, h4, h5, h6⟩ := fr_read h.core hev
    exact ⟨A, c, h3, h4, h5.any, h6⟩
  | _ => rw [hv] at hx; simp [listN] at hx
theorem slv_of {Z : Nat → Prop} {e : TypeId} {L : List Sc} {A : Option Addr} {c : Nat} (hZ : Z = M.fz) (hc : L.length ≤ c) (h : RdN w Z A L) (hw : wfL (dep e) L = true) : GP M w σ (slv e L) (.slice A L.length c) := by
  subst hZ
  unfold slv
  cases he : isN e with
  | true => exact ⟨A, c, rfl, hc, h, hw⟩
  | false => rw [(dep_zero he).1] at hw; exact ⟨A, c, rfl, hc, Rd_of h hw⟩
theorem fr_slv (h : Core σ M w) {t : Nat} {e : TypeId} {L : List Sc} {x : Value} (hx : GS M w σ t (.fr e L) x) : GP M w σ (slv e L) x := by
  obtain ⟨A, c, rfl, h4, h5, h6⟩ := fr_read h hx
  exact slv_of rfl h4 h5 h6
theorem fr_sl (h : Core σ M w) {t : Nat} {e : TypeId} {L : List Sc} {x : Value} (he : isN e = false) (hx : GS M w σ t (.fr e L) x) : GP M w σ (.sl L) x := by
  have := fr_slv h hx
  unfold slv at this
  rw [he] at this
  exact this
end
structure EnvOk (P : Program) (E : Env) : Prop where
  sl : ∀ t e z, look E.sl t = some (e, z) → (P.underlying t = some (.slice (unF e)) ∧ ∃ i, P.info? (unF e) = some i ∧ i.size = 1 ∧ i.bytes ≤ 32 ∧ i.zero = some z.val) ∧ wfS (dep e) z = true
  slz : ∀ t e z, look E.sl t = some (e, z) → ∃ i, P.info? t = some i ∧ i.size = 1
  gr : ∀ t s, look E.gr t = some s → ∃ f i j, P.underlying t = some (.struct #[f]) ∧ f.offset = 0 ∧ P.info? f.type = some i ∧ i.size = 1 ∧ P.info? t = some j ∧ j.size = 1 ∧ (P.underlying f.type = P.underlying s ∧ ∃ e, P.underlying s = some (.slice e)) ∧ ∃ z, j.zero = some (.agg #[z])
  sc : ∀ t, isIn E.sc t = true → (P.underlying t = some .bool ∨ (∃ k, P.underlying t = some (.int k)) ∨ P.underlying t = some .string) ∧ ∃ i, P.info? t = some i ∧ i.size = 1
  bl : ∀ t, isIn E.bl t = true → P.underlying t = some .bool
  ik : ∀ t k, look E.ik t = some k → P.underlying t = some (.int k)
  st : ∀ t, isIn E.st t = true → P.underlying t = some .string
  one : ∀ t, isIn E.one t = true → (∃ u, P.underlying t = some u ∧ (∀ f, u ≠ .struct f) ∧ ∀ n e, u ≠ .array n e) ∧ ∃ i, P.info? t = some i ∧ i.size = 1
  al : ∀ t zs, look E.al t = some zs → ∃ i v, P.info? t = some i ∧ i.zero = some v ∧ v.cells.toList.length = zs.length ∧ ∀ (j : Nat) z x, zs[j]? = some z → v.cells.toList[j]? = some x → (match z with | .sc y => x = y.val | .sl => x = .slice none 0 0 | .fn => True)
  fd : ∀ t n, look E.fd t = some n → ∃ fs, P.underlying t = some (.struct fs) ∧ fs.size = n ∧ ∀ (f : Nat) x, fs[f]? = some x → x.offset = f ∧ ∃ i, P.info? x.type = some i ∧ i.size = 1
  ll : ∀ t e, look E.ll t = some e → P.underlying t = some (.slice e) ∧ ∃ i, P.info? e = some i ∧ i.size = 1 ∧ i.zero = some (.slice none 0 0)
  fn : ∀ (f : Nat) fn, P.funcs[f]? = some fn → fn.body.isSome = true → (fn.name == "runtime.NumGoroutine") = false
  wide : P.follows .mixedOrders = true
def packV : List Value → Value
  | [x] => x
  | xs => .tuple xs.toArray
structure Pre (w : World) (M : Mem) (inh args : List AV) (vs : List Value) : Prop where
  core : Core inh M w
  fr : ∀ b, w.heap.size ≤ b → M.fn b
  loc : ∀ k ad, M.loc k = some ad → k < inh.length
  len : vs.length = args.length
  arg : ∀ (i : Nat) v x, args[i]? = some v → vs[i]? = some x → GS M w inh 0 v x ∧ ∀ e L, v ≠ .own e L
structure Post (w : World) (M : Mem) (n : Nat) (w' : World) (M' : Mem) (out rs : List AV) (xs : List Value) : Prop where
  core : Core out M' w'
  kept : Kept (fun b => ∃ q, M.ow b = some q) w w'
  may : ∀ b q, M'.ow b = some q → (∃ q', M.ow b = some q') ∨ w.heap.size ≤ b
  fo : M'.fo = M.fo
  fn : ∀ b, M'.fn b → M.fn b
  loc : M'.loc = M.loc
  cown : ∀ k ad, M.loc k = some ad → M'.ow ad.block = M.ow ad.block
  tm : ∀ k, k < n → M.loc k = none → M'.tm k = M.tm k
  len : xs.length = rs.length
  res : ∀ (i : Nat) v x, rs[i]? = some v → xs[i]? = some x → GS M' w' out 0 v x ∧ ∀ e L, v ≠ .own e L
def NG (M : Mem) (g : Nat) (w' : World) : AV → Value → Prop
  | .p (.sc y), x => x = y.val
  | .p (.sl L), x => ∃ A c, x = .slice A L.length c ∧ L.length ≤ c ∧ Rd w' (fun b => M.fo b ∧ b ≠ g) A L
  | _, _ => False
def NS (P : Program) (f : FuncId) (args out : List AV) : Prop :=
  (∃ fn, P.funcs[f]? = some fn ∧ fn.body.isSome = true) ∧ ∀ w M vs, Pre w M [] args vs → (∀ b, M.ow b = none) →
    Calls P f vs.toArray w fun e w' => ∃ (g : Nat) (ys : List Value), e = .returned (.pointer (some ⟨g, 0, none⟩)) ∧ Below w.heap.size w w' ∧ w.heap.size ≤ g ∧ g < w'.heap.size ∧ ys.length = out.length ∧
      ∀ i y, ys[i]? = some y → (w'.cell? ⟨g, i, none⟩ = some y ∧ w'.frozen? ⟨g, i, none⟩ = false) ∧ ∀ v, out[i]? = some v → NG M g w' v y
def CO (P : Program) (f : FuncId) (args inh rs out : List AV) : Prop :=
  (∃ fn, P.funcs[f]? = some fn ∧ fn.body.isSome = true) ∧ ∀ w M vs, Pre w M inh args vs →
    Calls P f vs.toArray w fun e w' => ∃ xs M', e = .returned (packV xs) ∧ Post w M inh.length w' M' out rs xs
def CS (P : Program) (f : FuncId) (args inh rs out : List AV) : Prop := match isNew inh rs with
  | true => NS P f args out
  | false => CO P f args inh rs out
theorem CS.old {P : Program} {f : FuncId} {args inh rs out : List AV} (h : CS P f args inh rs out) (hn : isNew inh rs = false) : CO P f args inh rs out := by
  unfold CS at h; rw [hn] at h; exact h
theorem CS.new {P : Program} {f : FuncId} {args inh rs out : List AV} (h : CS P f args inh rs out) (hn : isNew inh rs = true) : NS P f args out := by
  unfold CS at h; rw [hn] at h; exact h
theorem CS.has {P : Program} {f : FuncId} {args inh rs out : List AV} (h : CS P f args inh rs out) : ∃ fn, P.funcs[f]? = some fn ∧ fn.body.isSome = true := by
  unfold CS at h
  split at h
  · exact h.1
  · exact h.1
theorem isNew_map (g : AV → AV) (inh rs : List AV) : isNew (inh.map g) rs = isNew inh rs := by cases inh <;> rfl
theorem CS.of {P : Program} {f : FuncId} {args inh rs out : List AV} (h : CO P f args inh rs out) : CS P f args inh rs out := by
  unfold CS
  split
  · rename_i hn
    unfold isNew at hn
    split at hn
    · rename_i k n
      refine ⟨h.1, fun w M vs hpre _ => (h.2 w M vs hpre).mono fun e w' hpost => ?_⟩
      obtain ⟨xs, M', _, hp⟩ := hpost
      have hx : xs.length = 1 := hp.len
      obtain ⟨b, _, h2, _, h4⟩ := (hp.res 0 _ xs[0] rfl (List.getElem?_eq_getElem (by omega))).1
      have h5 := h4 0 h2
      rw [hp.loc] at h5
      have := hpre.loc _ _ h5
      simp at this
    · cases hn
  · exact h
def CallOk (P : Program) (cl : Calling) : Prop := ∀ f args inh rs out, cl f args inh = some (true, rs, out) → CS P f args inh rs out
end Go.Proofs.YtlnhommmmajllaaGreat.Ev
