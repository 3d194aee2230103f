/-
  VOps: operations that hand back a value are the model's.
-/
import Derived.Test.YtlnhommmmajllaaGreatVSt
import Derived.Laws.MakeOwn
import Derived.Laws.OwnMore
set_option linter.unusedVariables false
namespace Go.Proofs.YtlnhommmmajllaaGreat.Ev
open Go Go.RowKit
section
variable {P : Program} {E : Env} {cl : Calling} {H : Hints} {Y : Nat → Prop} {w0 w : World} {m : Nat} {Mp : Mem} {nv nc : Nat} {M : Mem} {σ : List AV} {a : Act} {R : Type}
theorem wp_val {o : Oper} {next : Act → World → Prop} {Q : Exit → Act → World → Prop} {x : Value} {w' : World} (hr : (execOp a.eval o).run P w = .ok (.value x) w') (hn : next (a.put o.dst x) w') : o.wp P a w next Q := by
  unfold Oper.wp
  rw [hr]
  exact hn
theorem br_some {α : Type} {t : Bool} {x y : Option α} {r : α} (h : br t x y = some r) : (t = true ∧ x = some r) ∨ (t = false ∧ y = some r) := by
  cases t
  · exact .inr ⟨rfl, h⟩
  · exact .inl ⟨rfl, h⟩
theorem isAgg_slice {t e : TypeId} (h : P.underlying t = some (.slice e)) : (isAgg t).run P w = .ok false w := by
  simp [isAgg, run_underlying h]
theorem isAgg_struct {t : TypeId} {fs : Array Field} (h : P.underlying t = some (.struct fs)) : (isAgg t).run P w = .ok true w := by
  simp [isAgg, run_underlying h]
theorem isAgg_sc {t : TypeId} (h : P.underlying t = some .bool ∨ (∃ k, P.underlying t = some (.int k)) ∨ P.underlying t = some .string) : (isAgg t).run P w = .ok false w := by
  rcases h with h | ⟨k, h⟩ | h <;> simp [isAgg, run_underlying h]
theorem run_sizeOf {t : TypeId} {i : TypeInfo} (h : P.info? t = some i) : (sizeOf t).run P w = .ok i.size w := by
  simp [sizeOf, typeInfo, h]
theorem run_loadVar_one {t : TypeId} {ad : Addr} {v : Value} (hagg : (isAgg t).run P w = .ok false w) (hc : w.cell? ad = some v) : (loadVar t ad).run P w = .ok v w := by
  simp [loadVar, Sem.run_bind, hagg, hc]
theorem run_loadVar_agg1 {t : TypeId} {ad : Addr} {v : Value} {i : TypeInfo} (hagg : (isAgg t).run P w = .ok true w) (hi : P.info? t = some i) (hs : i.size = 1) (hc : w.cell? ad = some v) : (loadVar t ad).run P w = .ok (.agg #[v]) w := by
  have hl := run_loadCells_list (P := P) (w := w) ad [v] (by
    intro j u hj
    cases j with
    | zero => simp at hj; subst hj; simpa [Addr.add_zero'] using hc
    | succ j => simp at hj)
  simp at hl
  simp [loadVar, Sem.run_bind, hagg, run_sizeOf hi, hs, hl]
theorem isAgg_one {t : TypeId} (h : ∃ u, P.underlying t = some u ∧ (∀ f, u ≠ .struct f) ∧ ∀ n e, u ≠ .array n e) : (isAgg t).run P w = .ok false w := by
  obtain ⟨u, h1, h2, h3⟩ := h
  simp only [isAgg, Sem.run_bind, run_underlying h1, Result.andThen_ok]
  rfl
theorem scBin_sound {R : Type} {op : BinOp} {x y : Sc} {k : Sc → Option R} {r : R} {t : TypeId} (hb : ∀ b, x = .b b → P.underlying t = some .bool) (hk : scBin op x y k = some r) :
    ∃ z, k z = some r ∧ (binOp op t x.val y.val).run P w = .ok z.val w := by
  cases x with
  | n kx a =>
    cases y with
    | n ky b =>
      cases op <;> simp only [scBin] at hk
      case shl =>
        rcases br_some hk with ⟨_, h2⟩ | ⟨h1, h2⟩
        · cases h2
        · refine ⟨_, h2, ?_⟩
          have h1 : ¬ b < 0 := by simpa using h1
          simp [Sc.val, binOp_shl, Op.shift, h1]
      case shr =>
        rcases br_some hk with ⟨_, h2⟩ | ⟨h1, h2⟩
        · cases h2
        · refine ⟨_, h2, ?_⟩
          have h1 : ¬ b < 0 := by simpa using h1
          simp [Sc.val, binOp_shr, Op.shift, h1]
      all_goals
        split at hk
        case isFalse => cases hk
        case isTrue he =>
          subst he
          first
            | (refine ⟨_, hk, ?_⟩; simp [Sc.val, binOp_add, binOp_sub, binOp_mul, binOp_and, binOp_or, binOp_xor, binOp_andNot, binOp_eql, binOp_neq, binOp_lss, binOp_leq, binOp_gtr, binOp_geq, Op.intArith, intBits_and, intBits_or, intBits_xor, intBits_andNot]; done)
            | (rcases br_some hk with ⟨_, h2⟩ | ⟨h1, h2⟩
               · cases h2
               · refine ⟨_, h2, ?_⟩
                 have h1 : ¬ b = 0 := by simpa using h1
                 simp [Sc.val, binOp_quo, binOp_rem, Op.intDiv, h1])
    | s b => cases op <;> simp [scBin] at hk
    | b b => cases op <;> simp [scBin] at hk
    | l b => cases op <;> simp [scBin] at hk
  | l a => cases y <;> cases op <;> simp [scBin] at hk
  | s a =>
    cases y with
    | s b =>
      cases op <;> simp only [scBin] at hk <;> first | (cases hk; done) | skip
      case add =>
        rcases br_some hk with ⟨h1, h2⟩ | ⟨_, h2⟩
        · refine ⟨_, h2, ?_⟩
          have h1 : a.size + b.size ≤ lim := by simpa using h1
          have h3 : ¬ ((9223372036854775807 : Int) < (a.size : Int) + (b.size : Int)) := by
            unfold lim at h1
            omega
          simp [Sc.val, binOp, Op.stringOp, h3]
        · cases h2
      case eql => exact ⟨_, hk, by simp [Sc.val, binOp, Op.stringOp]⟩
      case neq => exact ⟨_, hk, by simp [Sc.val, binOp, Op.stringOp]⟩
    | n k b => cases op <;> simp [scBin] at hk
    | b b => cases op <;> simp [scBin] at hk
    | l b => cases op <;> simp [scBin] at hk
  | b a =>
    cases y with
    | b b =>
      cases op <;> simp only [scBin] at hk <;> first | (cases hk; done) | skip
      case eql => exact ⟨_, hk, run_eql_bool w t a b (hb a rfl)⟩
      case neq => exact ⟨_, hk, run_neq_bool w t a b (hb a rfl)⟩
    | n k b => cases op <;> simp [scBin] at hk
    | s b => cases op <;> simp [scBin] at hk
    | l b => cases op <;> simp [scBin] at hk
theorem ad_cell {ad : Addr} {L : List Sc} {i : Int} (z : Sc) (h : ∀ j x, L[j]? = some x → w.cell? (ad.add j) = some x.val) (hi : inRange i L.length = true) : w.cell? (ad.add i.toNat) = some (L.getD i.toNat z).val := by
  simp only [inRange, Bool.and_eq_true, decide_eq_true_eq] at hi
  have hl : i.toNat < L.length := by omega
  exact h _ _ (by simp [List.getD, hl])
theorem run_indexAt_one {t e : TypeId} {i : TypeInfo} (h : P.underlying t = some (.slice e)) (hi : P.info? e = some i) (hs : i.size = 1) (ad : Addr) (n c : Nat) (k : IntKind) (j : Int) (hj : inRange j n = true) :
    (Instr.indexAt t (.slice (some ad) n c) (.int k j)).run P w = .ok (.pointer (some (ad.add j.toNat))) w := by
  simp only [inRange, Bool.and_eq_true, decide_eq_true_eq] at hj
  simp [Instr.indexAt, asIntOf, run_underlying h, hj, run_sizeOf hi, hs]
def Gives (P : Program) (M : Mem) (σ : List AV) (a : Act) (w : World) (o : Oper) (k : AV → Option R) (r : R) : Prop :=
  ∀ (next : Act → World → Prop) (Q : Exit → Act → World → Prop), (∀ v x w', k v = some r → Below w.heap.size w w' → NV M w w' σ v x → next (a.put o.dst x) w') → o.wp P a w next Q
theorem gives_val {o : Oper} {k : AV → Option R} {r : R} {v : AV} {x : Value} (hr : (execOp a.eval o).run P w = .ok (.value x) w) (hk : k v = some r) (hv : NV M w w σ v x) : Gives P M σ a w o k r :=
  fun next Q hn => wp_val hr (hn v x w hk (Below.refl _ _) hv)
theorem val_move (h : St Y w0 m Mp nv nc M σ a w) {o : Oper} {x : Operand} (ho : o.op = .move x) {k : AV → Option R} {r : R} (hk : valOp E cl H nv σ (.move x) k = some r) : Gives P M σ a w o k r :=
  gives_val (by simp [execOp, ho]) hk (h.evalN x)
theorem val_pick (h : St Y w0 m Mp nv nc M σ a w) {o : Oper} {c x y : Operand} (ho : o.op = .pick c x y) {k : AV → Option R} {r : R} (hk : valOp E cl H nv σ (.pick c x y) k = some r) : Gives P M σ a w o k r := by
  have key : ∀ (t : Bool) (z : Sc), a.eval c = .bool t → (if t then a.eval x else a.eval y) = z.val → k (.p (.sc z)) = some r → Gives P M σ a w o k r := by
    intro t z h1 h2 h3
    refine gives_val (x := z.val) ?_ h3 rfl
    cases t <;> simp_all [execOp, asBool]
  simp only [valOp] at hk
  split at hk
  · rename_i t hc
    have hc' : a.eval c = .bool t := eval_sc h hc
    split at hk
    · rename_i x' y' hx hy
      rcases br_some hk with ⟨rfl, h2⟩ | ⟨rfl, h2⟩
      · exact key true x' hc' (by simpa using eval_sc h hx) h2
      · exact key false y' hc' (by simpa using eval_sc h hy) h2
    · rename_i x' hx _
      rcases br_some hk with ⟨rfl, h2⟩ | ⟨rfl, h2⟩
      · exact key true x' hc' (by simpa using eval_sc h hx) h2
      · cases h2
    · rename_i y' hy _
      rcases br_some hk with ⟨rfl, h2⟩ | ⟨rfl, h2⟩
      · cases h2
      · exact key false y' hc' (by simpa using eval_sc h hy) h2
    · cases hk
  · cases hk
theorem addr_add {ad : Addr} (hs : ad.spot = none) (i : Nat) : ad.add i = ⟨ad.block, ad.off + i, none⟩ := by
  unfold Addr.add
  by_cases h : i = 0
  · subst h; cases ad; simp_all
  · simp [h]
theorem val_fieldAddr (h : St Y w0 m Mp nv nc M σ a w) (hE : EnvOk P E) {o : Oper} {t : TypeId} {x : Operand} {f : Nat} (ho : o.op = .fieldAddr t x f) {k : AV → Option R} {r : R} (hk : valOp E cl H nv σ (.fieldAddr t x f) k = some r) : Gives P M σ a w o k r := by
  simp only [valOp] at hk
  split at hk
  · rename_i L hx
    split at hk
    · rename_i s hs
      obtain ⟨ad, A, c, h1, h2, h3, h4, h5⟩ := eval_p h hx
      obtain ⟨fd, i, j, e1, e2, e3, e4, _⟩ := hE.gr t s hs
      have run : (execOp a.eval o).run P w = .ok (.value (.pointer (some ad))) w := by
        simp [execOp, ho, h1, Instr.fieldAt, run_underlying e1, Instr.sureAddr, fieldPlace, run_sizeOf e3, e4, e2, Addr.add_zero']
      exact gives_val run hk ⟨ad, A, c, rfl, h2, h3, h4, h5⟩
    · cases hk
  · rename_i b n hx
    split at hk
    · rename_i m hm
      split at hk
      · rename_i hc
        simp only [Bool.and_eq_true] at hc
        have hmn : m = n := Nat.eq_of_beq_eq_true hc.1
        have hfn : f < n := by have := hc.2; rwa [Nat.blt_eq] at this
        subst hmn
        obtain ⟨blk, h1, h2, h3, h4⟩ := eval_p h hx
        obtain ⟨fs, e1, e2, e3⟩ := hE.fd t m hm
        have hlt : f < fs.size := by omega
        obtain ⟨e4, i, e5, e6⟩ := e3 f fs[f] (Array.getElem?_eq_getElem hlt)
        have run : (execOp a.eval o).run P w = .ok (.value (.pointer (some ⟨blk, f, none⟩))) w := by
          simp [execOp, ho, h1, Instr.fieldAt, run_underlying e1, Instr.sureAddr, fieldPlace, run_sizeOf e5, e6, e4, hlt, addr_add]
        split at hk
        · have hf0 : f = 0 := by omega
          subst hf0
          exact gives_val run hk ⟨blk, rfl, h2, h3, h4⟩
        · exact gives_val run hk ⟨_, rfl, h4 f hfn⟩
      · cases hk
    · cases hk
  · cases hk
theorem val_field (h : St Y w0 m Mp nv nc M σ a w) (hE : EnvOk P E) {o : Oper} {t : TypeId} {x : Operand} {f : Nat} (ho : o.op = .field t x f) {k : AV → Option R} {r : R} (hk : valOp E cl H nv σ (.field t x f) k = some r) : Gives P M σ a w o k r := by
  have run : ∀ (s : TypeId) (z : Value), look E.gr t = some s → f = 0 → a.eval x = .agg #[z] → (execOp a.eval o).run P w = .ok (.value z) w := by
    intro s z hs hf hz
    subst hf
    obtain ⟨fd, i, j, e1, e2, e3, e4, e5, e6, ⟨e7, e, e8⟩, _⟩ := hE.gr t s hs
    simp [execOp, ho, hz, Instr.field, run_underlying e1, asAgg, part, isAgg_slice (e7.trans e8), e2]
  simp only [valOp] at hk
  split at hk
  · rename_i s L hs hx
    obtain ⟨A, c, h1, h2, h3⟩ := eval_p h hx
    exact gives_val (run s _ hs rfl h1) hk ⟨A, c, rfl, h2, h3⟩
  · rename_i s q hs hx
    obtain ⟨h1, h2⟩ := eval_p h hx
    exact gives_val (run s _ hs rfl h2) hk ⟨h1, rfl⟩
  · cases hk
theorem GS.idx {t t' : Nat} {v : AV} {x : Value} (h : GS M w σ t v x) (hno : ∀ e L, v ≠ .own e L) : GS M w σ t' v x := by
  cases v <;> first | exact h | exact absurd rfl (hno _ _)
theorem St.cellAt (h : St Y w0 m Mp nv nc M σ a w) {x : Operand} {b : Nat} (hx : Ev.cellAt (evalO nv σ x) = some b) : ∃ ad, a.eval x = .pointer (some ad) ∧ M.loc b = some ad := by
  have hev := (h.eval x).1
  unfold Ev.cellAt at hx
  split at hx
  · rename_i b' hv
    injection hx with hx
    subst hx
    rw [hv] at hev
    obtain ⟨blk, h1, h2, h3, h4⟩ := hev
    exact ⟨_, h1, h4 0 Nat.one_pos⟩
  · rename_i b' hv
    injection hx with hx
    subst hx
    rw [hv] at hev
    exact hev
  · cases hx
theorem val_load (h : St Y w0 m Mp nv nc M σ a w) (hE : EnvOk P E) {o : Oper} {t : TypeId} {x : Operand} (ho : o.op = .load t x) {k : AV → Option R} {r : R} (hk : valOp E cl H nv σ (.load t x) k = some r) : Gives P M σ a w o k r := by
  have grp : ∀ (s : TypeId) (ad : Addr) (z : Value), look E.gr t = some s → a.eval x = .pointer (some ad) → w.cell? ad = some z → (execOp a.eval o).run P w = .ok (.value (.agg #[z])) w := by
    intro s ad z hs h1 h3
    obtain ⟨fd, i, j, e1, e2, e3, e4, e5, e6, _⟩ := hE.gr t s hs
    simp [execOp, ho, h1, Instr.loadAt, Instr.sureAddr, run_loadVar_agg1 (isAgg_struct e1) e5 e6 h3]
  have one : ∀ (ad : Addr) (z : Value), (isAgg t).run P w = .ok false w → a.eval x = .pointer (some ad) → w.cell? ad = some z → (execOp a.eval o).run P w = .ok (.value z) w := by
    intro ad z hs h1 h3
    simp only [execOp, ho, h1, Instr.loadAt, Instr.sureAddr, Sem.run_bind, Sem.run_pure, Result.andThen_ok, run_loadVar_one hs h3]
  simp only [valOp] at hk
  split at hk
  · rename_i L hx
    obtain ⟨ad, A, c, h1, h2, h3, h4, h5⟩ := eval_p h hx
    split at hk
    · rename_i s hs
      exact gives_val (grp s ad _ hs h1 h3) hk ⟨A, c, rfl, h4, h5⟩
    · rename_i y hs _
      obtain ⟨⟨e1, _⟩, _⟩ := hE.sl t y.1 y.2 hs
      exact gives_val (one ad _ (isAgg_slice e1) h1 h3) hk ⟨A, c, rfl, h4, h5⟩
    · cases hk
  · rename_i d L hx
    obtain ⟨ad, A, c, h1, h2, h3, h4, h5, h6⟩ := eval_p h hx
    split at hk
    · rename_i y hs
      obtain ⟨⟨e1, _⟩, _⟩ := hE.sl t y.1 y.2 hs
      exact gives_val (one ad _ (isAgg_slice e1) h1 h3) hk ⟨A, c, rfl, h4, h5, h6⟩
    · cases hk
  · rename_i y hx
    obtain ⟨ad, h1, h2, h3⟩ := eval_p h hx
    split at hk
    · rename_i ht
      exact gives_val (one ad _ (isAgg_sc (hE.sc t ht).1) h1 h3) hk rfl
    · cases hk
  · rename_i s i hx
    have hev := (h.eval x).1
    rw [hx] at hev
    obtain ⟨_, g, n, cap, h2, h3, h4⟩ := hev
    split at hk
    · rename_i z e' L' ht _ ho'
      split at hk
      · cases hk
      rename_i he
      have hq := ownOf_eq ho'
      rcases br_some hk with ⟨hsk, hk2⟩ | ⟨_, hk2⟩
      · have h5 := ((own_at h.core hq (ownOf_dp ho')).1.sc he).1
        rw [h2] at h5
        obtain ⟨A', c', h6⟩ := ownsRow_slice h5
        simp only [Value.slice.injEq] at h6
        have hn : n = L'.length := h6.2.1
        subst hn
        have hcell := h5.cells (g := g) rfl i (L'.getD i z).val (by simp [List.getD, h3])
        rw [Addr.add_lit, Nat.zero_add] at hcell
        rw [castSc_eq hsk] at hk2
        exact gives_val (one _ _ (isAgg_sc (hE.sc t ht).1) h4 hcell) hk2 rfl
      · cases hk2
    · rename_i e' L' ht ho'
      have hq := ownOf_eq ho'
      split at hk
      · rename_i y hs he
        obtain ⟨⟨e1, _⟩, _⟩ := hE.sl t y.1 y.2 hs
        have h5 := (own_at h.core hq (ownOf_dp ho')).1
        rw [h2] at h5
        obtain ⟨_, _, h6⟩ := h5.slice
        simp only [Value.slice.injEq] at h6
        have hn : n = L'.length := h6.2.1
        subst hn
        obtain ⟨⟨vs, h5, h7⟩, h8⟩ := h5
        have hlt : i < vs.length := by rw [h7.1]; exact h3
        have hcell := h5.cells (g := g) rfl i vs[i] (List.getElem?_eq_getElem hlt)
        rw [Addr.add_lit, Nat.zero_add] at hcell
        have h9 := h7.2 i L'[i] vs[i] (List.getElem?_eq_getElem h3) (List.getElem?_eq_getElem hlt)
        have hget : L'.getD i (.l []) = L'[i] := by simp [List.getD, h3]
        have hwf := wfL_at h8 (List.getElem?_eq_getElem h3)
        rw [hget] at hk
        have hd := dep_pos he
        split at hk
        · rename_i hd1
          rw [hd1] at hwf
          obtain ⟨K, hK, hw⟩ := wf_l hwf
          rw [hK] at h9 hk
          obtain ⟨A, c, q1, q2, q3⟩ := HF_l.1 h9
          rw [q1] at hcell
          exact gives_val (one _ _ (isAgg_slice e1) h4 hcell) hk ⟨A, c, rfl, q2, Rd_of q3 hw⟩
        · obtain ⟨d, hd2⟩ : ∃ d, dep e' = d + 1 := ⟨dep e' - 1, by omega⟩
          rw [hd2] at hwf hk
          obtain ⟨K, hK, hw⟩ := wf_l hwf
          rw [hK] at h9 hk
          obtain ⟨A, c, q1, q2, q3⟩ := HF_l.1 h9
          rw [q1] at hcell
          exact gives_val (one _ _ (isAgg_slice e1) h4 hcell) hk ⟨A, c, rfl, q2, q3, hw⟩
      · cases hk
    · cases hk
  · split at hk
    case h_2 => cases hk
    rename_i b hb
    obtain ⟨ad, h1, hl⟩ := h.cellAt hb
    have hcell := (h.core.cell b ad hl).1
    have hslot := h.core.slot b
    split at hk
    · rename_i ht
      have hrun := one ad _ (isAgg_one (hE.one t ht).1) h1 hcell
      split at hk
      · rename_i e L hv
        exact gives_val hrun hk ⟨by unfold rf; rw [hv]; rfl, rfl⟩
      · cases hk
      · cases hk
      · rename_i n1 n2 n3
        have hno : ∀ e L, σ.getD b .u ≠ .own e L := fun e L he => n1 e L he
        exact gives_val hrun hk (NV_of hno (hslot.idx hno))
    · rename_i s ht hs
      have hrun := grp s ad _ hs h1 hcell
      split at hk
      · rename_i e L hv
        exact gives_val hrun hk ⟨by unfold rf; rw [hv]; rfl, rfl⟩
      · rename_i L hv
        rw [hv] at hslot
        obtain ⟨A, c, g1, g2, g3⟩ := hslot
        exact gives_val hrun hk ⟨A, c, by rw [g1], g2, g3⟩
      · rename_i e L hv
        split at hk
        · cases hk
        rename_i he
        rw [hv] at hslot
        obtain ⟨A, c, g1, g2, g3⟩ := fr_sl h.core he hslot
        exact gives_val hrun hk ⟨A, c, by rw [g1], g2, g3⟩
      · rename_i q hv
        rw [hv] at hslot
        exact gives_val hrun hk ⟨hslot.1, by rw [hslot.2]⟩
      · cases hk
    · cases hk
theorem val_binOp (h : St Y w0 m Mp nv nc M σ a w) (hE : EnvOk P E) {o : Oper} {op : BinOp} {t t' : TypeId} {x y : Operand} (ho : o.op = .binOp op t x y t') {k : AV → Option R} {r : R} (hk : valOp E cl H nv σ (.binOp op t x y t') k = some r) : Gives P M σ a w o k r := by
  simp only [valOp] at hk
  split at hk
  · rename_i x' y' hx hy
    split at hk
    · rename_i hok
      obtain ⟨z, hz, hrun⟩ := scBin_sound (P := P) (w := w) (t := t) (by rintro b rfl; exact hE.bl t hok) hk
      have hgd : ∀ (u v : Value), eqGuard op t x y x'.val v = pure () := fun u v => by
        cases x' with
        | n kd n => exact eqGuard_at_int ..
        | b b => exact eqGuard_at_bool ..
        | s s => exact eqGuard_at_string ..
        | l L => exfalso; revert hk; cases y' <;> cases op <;> simp [scBin]
      have run : (execOp a.eval o).run P w = .ok (.value z.val) w := by
        simp only [execOp, ho, eval_sc h hx, eval_sc h hy, hgd undef, Sem.run_bind, Sem.run_pure, Result.andThen_ok, hrun]
      exact gives_val run hz rfl
    · cases hk
  · cases hk
theorem val_unOp (h : St Y w0 m Mp nv nc M σ a w) {o : Oper} {op : UnOp} {t : TypeId} {x : Operand} (ho : o.op = .unOp op t x) {k : AV → Option R} {r : R} (hk : valOp E cl H nv σ (.unOp op t x) k = some r) : Gives P M σ a w o k r := by
  simp only [valOp] at hk
  split at hk
  · rename_i x' hx
    have run : (execOp a.eval o).run P w = .ok (.value (.bool (!x'))) w := by
      simp [execOp, ho, eval_sc h hx, Sc.val, Op.unary]
    exact gives_val run hk rfl
  · rename_i kd x' hx
    have run : (execOp a.eval o).run P w = .ok (.value (.int kd (kd.wrap (0 - x')))) w := by
      simp [execOp, ho, eval_sc h hx, Sc.val, Op.unary, Op.intArith]
    exact gives_val run hk rfl
  · cases hk
theorem val_convert (h : St Y w0 m Mp nv nc M σ a w) (hE : EnvOk P E) {o : Oper} {s d : TypeId} {x : Operand} (ho : o.op = .convert s d x) {k : AV → Option R} {r : R} (hk : valOp E cl H nv σ (.convert s d x) k = some r) : Gives P M σ a w o k r := by
  simp only [valOp] at hk
  split at hk
  · rename_i ks kd kx n hs hd hx
    have run : (execOp a.eval o).run P w = .ok (.value (.int kd (kd.wrap n))) w := by
      simp [execOp, ho, eval_sc h hx, Sc.val, convert, run_underlying (hE.ik s ks hs), run_underlying (hE.ik d kd hd), Conv.intToInt]
    exact gives_val run hk rfl
  · unfold convS at hk
    split at hk
    · rename_i e z L hsl hl
      split at hk
      · rename_i hik hst
        rcases br_some hk with ⟨hu, h2⟩ | ⟨_, h2⟩
        · obtain ⟨⟨e1, _⟩, _⟩ := hE.sl s e z hsl
          have he0 : P.underlying (unF e) = some (.int .u8) := hE.ik (unF e) .u8 hik
          obtain ⟨A, c, h3, h4, h5⟩ := list_of h hl
          have hv : L.map Sc.val = (L.map numOf).map (Value.int .u8) := by
            rw [List.map_map]
            refine List.map_congr_left fun y hy => ?_
            have := List.all_eq_true.1 hu y hy
            cases y with
            | n kd y =>
              have : IntKind.u8 = kd := of_decide_eq_true this
              subst this
              rfl
            | _ => cases this
          have hb : (Conv.bytesToString (.slice A L.length c)).run P w = .ok (.string (bytesOf L)) w := by
            rcases h5 with rfl | ⟨ad, rfl, _, h7⟩
            · cases A with
              | none => simp [Conv.bytesToString, bytesOf, Sem.run_pure]
              | some ad => exact run_bytesToString w ad 0 c [] (run_loadCells_list w ad [] (fun j v hj => by cases hj))
            · refine run_bytesToString w ad L.length c (L.map numOf) ?_
              rw [← hv]
              have := run_loadCells_list (P := P) w ad (L.map Sc.val) (fun j v hj => by
                rw [List.getElem?_map, Option.map_eq_some_iff] at hj
                obtain ⟨y, hy, rfl⟩ := hj
                exact (h7 j y hy).2)
              simpa using this
          have run : (execOp a.eval o).run P w = .ok (.value (.string (bytesOf L))) w := by
            simp only [execOp, ho, h3, Sem.run_bind, run_convert_bytes_string w s d (unF e) A L.length c e1 he0 (hE.st d hst), hb, Result.andThen_ok, Sem.run_pure]
          exact gives_val run h2 rfl
        · cases h2
      · cases hk
    · cases hk
  · cases hk
theorem val_indexAddr (h : St Y w0 m Mp nv nc M σ a w) (hE : EnvOk P E) {o : Oper} {t : TypeId} {x i : Operand} (ho : o.op = .indexAddr t x i) {k : AV → Option R} {r : R} (hk : valOp E cl H nv σ (.indexAddr t x i) k = some r) : Gives P M σ a w o k r := by
  have frz : ∀ (e0 : TypeId) (z : Sc) (L : List Sc) (kd : IntKind) (j : Int), look E.sl t = some (e0, z) → GP M w σ (.sl L) (a.eval x) → evalO nv σ i = .p (.sc (.n kd j)) → br (inRange j L.length && sameKind z (L.getD j.toNat z)) (k (.p (.ev (castSc z (L.getD j.toNat z))))) none = some r → Gives P M σ a w o k r := by
    intro e0 z L kd j hs hx hi hk
    obtain ⟨⟨e1, ti, e2, e3, _⟩, _⟩ := hE.sl t e0 z hs
    rcases br_some hk with ⟨h1, h2⟩ | ⟨_, h2⟩
    · simp only [Bool.and_eq_true] at h1
      obtain ⟨h1, h1k⟩ := h1
      rw [castSc_eq h1k] at h2
      obtain ⟨A, c, h3, h4, h5⟩ := hx
      rcases h5 with rfl | ⟨ad, rfl, h6, h7⟩
      · simp only [inRange, List.length_nil, Bool.and_eq_true, decide_eq_true_eq] at h1; omega
      · have run : (execOp a.eval o).run P w = .ok (.value (.pointer (some (ad.add j.toNat)))) w := by
          simp only [execOp, ho, h3, eval_sc h hi, Sc.val, Sem.run_bind, Sem.run_pure, Result.andThen_ok, run_indexAt_one e1 e2 e3 ad _ _ _ _ h1]
        exact gives_val run h2 ⟨_, rfl, by rw [block_of_add]; exact h6, ad_cell z (fun j x hj => (h7 j x hj).2) h1⟩
    · cases h2
  have nst : ∀ (y : TypeId × Sc) (A : Option Addr) (c d : Nat) (L : List Sc) (kd : IntKind) (j : Int), look E.sl t = some y → a.eval x = .slice A L.length c → RdN w M.fz A L → wfL d L = true → 0 < d → evalO nv σ i = .p (.sc (.n kd j)) →
      (match d with
      | 0 => none
      | 1 => br (inRange j L.length) (k (.p (.el (lstOf (L.getD j.toNat (.l [])))))) none
      | d => br (inRange j L.length) (k (.p (.en (d - 1) (lstOf (L.getD j.toNat (.l [])))))) none) = some r → Gives P M σ a w o k r := by
    intro y A c d L kd j hs h3 h5 hw hd hi hk
    obtain ⟨⟨e1, ti, e2, e3, _⟩, _⟩ := hE.sl t y.1 y.2 hs
    have fin : inRange j L.length = true → ∃ ad K A' c', (execOp a.eval o).run P w = .ok (.value (.pointer (some ad))) w ∧ M.fz ad.block ∧ L.getD j.toNat (.l []) = .l K ∧ wfL (d - 1) K = true ∧ w.cell? ad = some (.slice A' K.length c') ∧ K.length ≤ c' ∧ RdN w M.fz A' K := by
      intro h1
      have hin : 0 ≤ j ∧ j < L.length := by simpa [inRange, Bool.and_eq_true, decide_eq_true_eq] using h1
      have hlt : j.toNat < L.length := by omega
      rcases h5 with rfl | ⟨ad, rfl, h6, h7⟩
      · simp only [List.length_nil] at hlt; omega
      · have run : (execOp a.eval o).run P w = .ok (.value (.pointer (some (ad.add j.toNat)))) w := by
          simp only [execOp, ho, h3, eval_sc h hi, Sc.val, Sem.run_bind, Sem.run_pure, Result.andThen_ok, run_indexAt_one e1 e2 e3 ad _ _ _ _ h1]
        obtain ⟨v, q1, q2⟩ := h7 j.toNat _ (List.getElem?_eq_getElem hlt)
        have hwf := wfL_at hw (List.getElem?_eq_getElem hlt)
        obtain ⟨d', rfl⟩ : ∃ d', d = d' + 1 := ⟨d - 1, by omega⟩
        obtain ⟨K, hK, hw'⟩ := wf_l hwf
        rw [hK] at q2
        obtain ⟨A', c', g1, g2, g3⟩ := HF_l.1 q2
        rw [g1] at q1
        exact ⟨_, K, A', c', run, by rw [block_of_add]; exact h6, by simp [List.getD, hlt, hK], hw', q1, g2, g3⟩
    split at hk
    · cases hk
    · rcases br_some hk with ⟨h1, h2⟩ | ⟨_, h2⟩
      · obtain ⟨ad, K, A', c', g1, g2, g3, g4, g5, g6, g7⟩ := fin h1
        rw [g3] at h2
        exact gives_val g1 h2 ⟨ad, A', c', rfl, g2, g5, g6, Rd_of g7 g4⟩
      · cases h2
    · rcases br_some hk with ⟨h1, h2⟩ | ⟨_, h2⟩
      · obtain ⟨ad, K, A', c', g1, g2, g3, g4, g5, g6, g7⟩ := fin h1
        rw [g3] at h2
        exact gives_val g1 h2 ⟨ad, A', c', rfl, g2, g5, g6, g7, g4⟩
      · cases h2
  simp only [valOp] at hk
  split at hk
  · rename_i e0 z L kd j hs hx hi
    exact frz e0 z L kd j hs (eval_p h hx) hi hk
  · rename_i e0 z e' L kd j hs hx hi
    have hev := (h.eval x).1
    rw [hx] at hev
    split at hk
    · rename_i he
      exact frz e0 z L kd j hs (fr_sl h.core he hev) hi hk
    · rename_i he
      obtain ⟨A, c, h3, h4, h5, h6⟩ := fr_read h.core hev
      refine nst (e0, z) A c (dep e') L kd j hs h3 h5 h6 (dep_pos he) hi ?_
      have hd := dep_pos he
      generalize dep e' = q at hk hd ⊢
      match q, hk, hd with
      | 1, hk, _ => exact hk
      | q + 2, hk, _ => exact hk
  · rename_i y d L kd j hs hx hi
    obtain ⟨A, c, h3, h4, h5, h6⟩ := eval_p h hx
    cases d with
    | zero => cases hk
    | succ d => exact nst y A c (d + 1) L kd j hs h3 h5 h6 (Nat.succ_pos d) hi hk
  · rename_i y s kd j hs hx hi
    obtain ⟨⟨e1, ti, e2, e3, _⟩, _⟩ := hE.sl t y.1 y.2 hs
    split at hk
    · rename_i e' L ho'
      have hq := ownAny_eq ho'
      rcases br_some hk with ⟨h1, h2⟩ | ⟨_, h2⟩
      · obtain ⟨h3, h4⟩ := eval_p h hx
        obtain ⟨_, h5, _⟩ := (own_any h.core hq).owns
        have hin : 0 ≤ j ∧ j < L.length := by simpa [inRange, Bool.and_eq_true, decide_eq_true_eq] using h1
        rcases h5.2 with ⟨h6, h7⟩ | ⟨g, cap, cur, h6, _⟩
        · rw [h7] at hin; omega
        · have run : (execOp a.eval o).run P w = .ok (.value (.pointer (some ⟨g, j.toNat, none⟩))) w := by
            have hx' : a.eval x = .slice (some ⟨g, 0, none⟩) L.length cap := h4.trans h6
            have := run_indexAt_one (w := w) e1 e2 e3 ⟨g, 0, none⟩ L.length cap kd j h1
            rw [Addr.add_lit, Nat.zero_add] at this
            simp only [execOp, ho, hx', eval_sc h hi, Sc.val, Sem.run_bind, Sem.run_pure, Result.andThen_ok, this]
          exact gives_val run h2 ⟨h3, g, L.length, cap, h6, by omega, rfl⟩
      · cases h2
    · cases hk
  · rename_i LL kd j hs hx hi
    split at hk
    · rename_i e hll
      obtain ⟨e1, ti, e2, e3, _⟩ := hE.ll t e hll
      rcases br_some hk with ⟨h1, h2⟩ | ⟨_, h2⟩
      · obtain ⟨A, c, h3, h4, h5⟩ := eval_p h hx
        have hin : 0 ≤ j ∧ j < LL.length := by simpa [inRange, Bool.and_eq_true, decide_eq_true_eq] using h1
        rcases h5 with rfl | ⟨ad, rfl, h6, h7⟩
        · simp only [List.length_nil] at hin; omega
        · have run : (execOp a.eval o).run P w = .ok (.value (.pointer (some (ad.add j.toNat)))) w := by
            simp only [execOp, ho, h3, eval_sc h hi, Sc.val, Sem.run_bind, Sem.run_pure, Result.andThen_ok, run_indexAt_one e1 e2 e3 ad _ _ _ _ h1]
          have hlt : j.toNat < LL.length := by omega
          obtain ⟨A', c', q1, q2, q3⟩ := h7 j.toNat _ (List.getElem?_eq_getElem hlt)
          have hd : LL.getD j.toNat [] = LL[j.toNat] := by simp [List.getD, hlt]
          rw [hd] at h2
          exact gives_val run h2 ⟨_, A', c', rfl, by rw [block_of_add]; exact h6, q1, q2, q3⟩
      · cases h2
    · cases hk
  · cases hk
theorem val_index (h : St Y w0 m Mp nv nc M σ a w) (hE : EnvOk P E) {o : Oper} {t : TypeId} {x i : Operand} (ho : o.op = .index t x i) {k : AV → Option R} {r : R} (hk : valOp E cl H nv σ (.index t x i) k = some r) : Gives P M σ a w o k r := by
  simp only [valOp] at hk
  split at hk
  · rename_i s kd j hs hx hi
    rcases br_some hk with ⟨h1, h2⟩ | ⟨_, h2⟩
    · have hin : 0 ≤ j ∧ j < s.size := by simpa [inRange, Bool.and_eq_true, decide_eq_true_eq] using h1
      have hj : j.toNat < s.size := by omega
      have run : (execOp a.eval o).run P w = .ok (.value (.int .u8 (s.data.toList.getD j.toNat 0).toNat)) w := by
        have hg : s[j.toNat]? = some (s.data.toList.getD j.toNat 0) := by
          have hj' : j.toNat < s.data.toList.length := by simpa using hj
          rw [getElem?_pos s j.toNat hj]
          simp only [List.getD, List.getElem?_eq_getElem hj', Option.getD_some]
          rfl
        simp [execOp, ho, eval_sc h hx, eval_sc h hi, Sc.val, Instr.index, asIntOf, run_underlying (hE.st t hs), hin.1, hg]
      exact gives_val run h2 rfl
    · cases h2
  · cases hk
theorem val_extract (h : St Y w0 m Mp nv nc M σ a w) {o : Oper} {x : Operand} {i : Nat} (ho : o.op = .extract x i) {k : AV → Option R} {r : R} (hk : valOp E cl H nv σ (.extract x i) k = some r) : Gives P M σ a w o k r := by
  simp only [valOp] at hk
  cases hx : evalO nv σ x with
  | tu fs =>
    rw [hx] at hk
    have hev := (h.eval x).1
    rw [hx] at hev
    obtain ⟨xs, h1, h2, h3⟩ := hev
    cases hy : fs[i]? with
    | none => simp [extractA, hy] at hk
    | some y =>
      simp only [extractA, hy, Option.map_some] at hk
      have hlt : i < xs.length := by rw [h2]; exact (List.getElem?_eq_some_iff.1 hy).1
      have run : (execOp a.eval o).run P w = .ok (.value xs[i]) w := by
        simp [execOp, ho, h1, Instr.extract, hlt]
      exact gives_val run hk (h3 i y _ hy (List.getElem?_eq_getElem hlt))
  | _ => rw [hx] at hk; simp [extractA] at hk
theorem deepL_slice (h : St Y w0 m Mp nv nc M σ a w) {x : Operand} {L : List Sc} (hx : deepL σ (evalO nv σ x) = some L) : ∃ A c, a.eval x = .slice A L.length c := by
  cases hv : evalO nv σ x with
  | p y =>
    rw [hv] at hx
    cases y with
    | al s =>
      simp only [deepL] at hx
      cases ho : ownD σ s with
      | none => rw [ho] at hx; cases hx
      | some eL =>
        obtain ⟨e, L'⟩ := eL
        rw [ho] at hx
        obtain rfl := Option.some.inj hx
        obtain ⟨A, c, h1⟩ := (own_any h.core (ownD_both ho).1).slice
        exact ⟨A, c, (eval_p h hv).2.trans h1⟩
    | _ => simp [deepL] at hx
  | _ => rw [hv] at hx; simp [deepL] at hx
theorem val_len (h : St Y w0 m Mp nv nc M σ a w) (hE : EnvOk P E) {o : Oper} {c : Call} (ho : o.op = .call c) (hc : c.callee = .builtin .len) {k : AV → Option R} {r : R} (hk : valOp E cl H nv σ (.call c) k = some r) : Gives P M σ a w o k r := by
  obtain ⟨cal, args, tys⟩ := c
  simp only at hc
  subst hc
  simp only [valOp] at hk
  split at hk
  · rename_i x t hx ht
    have hx' : args = #[x] := Array.toList_inj.1 hx
    have ht' : tys = #[t] := Array.toList_inj.1 ht
    subst hx'
    subst ht'
    have mk : ∀ (n : Nat), (Builtin.len_ #[t] o.type #[a.eval x]).run P w = .ok (.int .i64 n) w → (execOp a.eval o).run P w = .ok (.value (.int .i64 n)) w := fun n hr => by
      simp [execOp, ho, resolve, invoke, builtin, hr]
    split at hk
    · rename_i s hs
      split at hk
      · rename_i hst
        refine gives_val (mk s.size ?_) hk rfl
        simp [Builtin.len_, run_underlying (hE.st t hst), eval_sc h hs, Sc.val, goInt]
      · cases hk
    · rename_i LL hl
      split at hk
      · rename_i e hll
        obtain ⟨e1, _⟩ := hE.ll t e hll
        obtain ⟨A, cp, h1, _⟩ := eval_p h hl
        refine gives_val (mk LL.length ?_) hk rfl
        simp [Builtin.len_, run_underlying e1, h1, goInt]
      · cases hk
    · split at hk
      · rename_i y L hsl hl
        obtain ⟨⟨e1, _⟩, _⟩ := hE.sl t y.1 y.2 hsl
        obtain ⟨A, cp, h1, _⟩ := list_of h hl
        refine gives_val (mk L.length ?_) hk rfl
        simp [Builtin.len_, run_underlying e1, h1, goInt]
      · rename_i y hsl hl
        split at hk
        · rename_i d L hn
          obtain ⟨⟨e1, _⟩, _⟩ := hE.sl t y.1 y.2 hsl
          obtain ⟨A, cp, h1, _⟩ := list_nl h hn
          refine gives_val (mk L.length ?_) hk rfl
          simp [Builtin.len_, run_underlying e1, h1, goInt]
        · split at hk
          · rename_i L hn
            obtain ⟨⟨e1, _⟩, _⟩ := hE.sl t y.1 y.2 hsl
            obtain ⟨A, cp, h1⟩ := deepL_slice h hn
            refine gives_val (mk L.length ?_) hk rfl
            simp [Builtin.len_, run_underlying e1, h1, goInt]
          · cases hk
      · cases hk
  · cases hk
theorem map2 {args : Array Operand} {p q : AV} (h : args.toList.map (evalO nv σ) = [p, q]) : ∃ x y, args = #[x, y] ∧ evalO nv σ x = p ∧ evalO nv σ y = q := by
  obtain ⟨l⟩ := args
  match l, h with
  | [x, y], h =>
    simp only [List.map_cons, List.map_nil, List.cons.injEq, and_true] at h
    exact ⟨x, y, rfl, h.1, h.2⟩
theorem val_min (h : St Y w0 m Mp nv nc M σ a w) {o : Oper} {c : Call} (ho : o.op = .call c) (hc : c.callee = .builtin .min) {k : AV → Option R} {r : R} (hk : valOp E cl H nv σ (.call c) k = some r) : Gives P M σ a w o k r := by
  obtain ⟨cal, args, tys⟩ := c
  simp only at hc
  subst hc
  simp only [valOp] at hk
  split at hk
  · rename_i kx x' ky y' hm
    obtain ⟨x, y, rfl, hx, hy⟩ := map2 hm
    refine gives_val (x := .int kx (if y' < x' then y' else x')) ?_ hk rfl
    simp [execOp, ho, resolve, invoke, builtin, eval_sc h hx, eval_sc h hy, Sc.val, run_min_int2]
  · cases hk
theorem val_max (h : St Y w0 m Mp nv nc M σ a w) {o : Oper} {c : Call} (ho : o.op = .call c) (hc : c.callee = .builtin .max) {k : AV → Option R} {r : R} (hk : valOp E cl H nv σ (.call c) k = some r) : Gives P M σ a w o k r := by
  obtain ⟨cal, args, tys⟩ := c
  simp only at hc
  subst hc
  simp only [valOp] at hk
  split at hk
  · rename_i kx x' ky y' hm
    obtain ⟨x, y, rfl, hx, hy⟩ := map2 hm
    refine gives_val (x := .int kx (if y' > x' then y' else x')) ?_ hk rfl
    simp [execOp, ho, resolve, invoke, builtin, eval_sc h hx, eval_sc h hy, Sc.val, run_max_int2]
  · cases hk
theorem run_callFunc {f : FuncId} {fn : Func} {args : Array Value} (hf : P.funcs[f]? = some fn) (hb : fn.body.isSome = true) (hn : (fn.name == "runtime.NumGoroutine") = false) : (callFunc f args).run P w = .ok (.enter f args) w := by
  have hb' : fn.body ≠ none := by rintro e; rw [e] at hb; cases hb
  have hn' : fn.name ≠ "runtime.NumGoroutine" := by simpa using hn
  simp [callFunc, hf, hb', hn']
theorem parts_eval (h : St Y w0 m Mp nv nc M σ a w) : ∀ (parts : List (Nat × Operand)) (j : Nat) (L : List Sc), partsOf nv σ j parts = some L →
    parts.map (fun p => (p.1, a.eval p.2)) = (L.zipIdx j).map fun p => (p.2, p.1.val)
  | [], j, L, hp => by simp only [partsOf, Option.some.injEq] at hp; subst hp; rfl
  | (i, x) :: r, j, L, hp => by
    simp only [partsOf] at hp
    split at hp
    · rename_i v hi hx
      split at hp
      case h_2 => cases hp
      simp only [Option.map_eq_some_iff] at hp
      obtain ⟨L', hp, rfl⟩ := hp
      have hij : i = j := Nat.eq_of_beq_eq_true hi
      subst hij
      have := parts_eval h r (i + 1) L' hp
      simp only [List.map_cons, List.zipIdx_cons, this, eval_sc h hx]
    · cases hp
theorem parts_length : ∀ (parts : List (Nat × Operand)) (j : Nat) (L : List Sc), partsOf nv σ j parts = some L → L.length = parts.length
  | [], j, L, hp => by simp only [partsOf, Option.some.injEq] at hp; subst hp; rfl
  | (i, x) :: r, j, L, hp => by
    simp only [partsOf] at hp
    split at hp
    · split at hp
      case h_2 => cases hp
      simp only [Option.map_eq_some_iff] at hp
      obtain ⟨L', hp, rfl⟩ := hp
      simp [parts_length r (j + 1) L' hp]
    · cases hp
theorem parts_sc : ∀ (parts : List (Nat × Operand)) (j : Nat) (L : List Sc), partsOf nv σ j parts = some L → ∀ y ∈ L, isS y = true
  | [], j, L, hp => by simp only [partsOf, Option.some.injEq] at hp; subst hp; simp
  | (i, x) :: r, j, L, hp => by
    simp only [partsOf] at hp
    split at hp
    · split at hp
      case h_2 => cases hp
      rename_i hy
      simp only [Option.map_eq_some_iff] at hp
      obtain ⟨L', hp, rfl⟩ := hp
      intro y hm
      rcases List.mem_cons.1 hm with rfl | hm
      · exact hy
      · exact parts_sc r (j + 1) L' hp y hm
    · cases hp
theorem fill_rowV : ∀ (L : List Value) (pre : List Value) (rest : List Value), (∀ v ∈ L, v.cells = #[v]) → rest.length = L.length →
    Instr.fill (fun i => some (i * 1, 1)) (pre ++ rest).toArray ((L.zipIdx pre.length).map fun p => (p.2, p.1)) = some (pre ++ L).toArray
  | [], pre, rest, _, hr => by
    have : rest = [] := List.eq_nil_of_length_eq_zero hr
    subst this
    simp [Instr.fill]
  | y :: L, pre, rest, hv, hr => by
    cases rest with
    | nil => simp at hr
    | cons v rest =>
      have hcells : y.cells = #[y] := hv y List.mem_cons_self
      simp only [List.zipIdx_cons, List.map_cons, Instr.fill, hcells]
      rw [if_neg (by simp)]
      have hset : ((#[y] : Array Value).zipIdx.foldl (fun cs (x : Value × Nat) => cs.setIfInBounds (pre.length * 1 + x.2) x.1) (pre ++ v :: rest).toArray) = ((pre ++ [y]) ++ rest).toArray := by
        simp [List.set_append_right]
      have ih := fill_rowV L (pre ++ [y]) rest (fun v hm => hv v (List.mem_cons_of_mem _ hm)) (by simpa using hr)
      simp only [List.length_append, List.length_cons, List.length_nil, Nat.zero_add] at ih
      rw [hset, ih]
      simp
theorem partsL_spec (h : St Y w0 m Mp nv nc M σ a w) : ∀ (parts : List (Nat × Operand)) (j : Nat) (LL : List (List Sc)), partsL nv σ j parts = some LL →
    ∃ vs : List Value, vs.length = LL.length ∧ LL.length = parts.length ∧ (parts.map fun p => (p.1, a.eval p.2)) = (vs.zipIdx j).map (fun p => (p.2, p.1)) ∧ ∀ (i : Nat) L v, LL[i]? = some L → vs[i]? = some v → ∃ A c, v = .slice A L.length c ∧ L.length ≤ c ∧ Rd w M.fz A L
  | [], j, LL, hp => by simp only [partsL, Option.some.injEq] at hp; subst hp; exact ⟨[], rfl, rfl, rfl, fun i L v h => by simp at h⟩
  | (i, x) :: r, j, LL, hp => by
    have fin : ∀ (L : List Sc), Nat.beq i j = true → GP M w σ (.sl L) (a.eval x) → (partsL nv σ (j + 1) r).map (L :: ·) = some LL → ∃ vs : List Value, vs.length = LL.length ∧ LL.length = ((i, x) :: r).length ∧ (((i, x) :: r).map fun p => (p.1, a.eval p.2)) = (vs.zipIdx j).map (fun p => (p.2, p.1)) ∧ ∀ (i : Nat) L v, LL[i]? = some L → vs[i]? = some v → ∃ A c, v = .slice A L.length c ∧ L.length ≤ c ∧ Rd w M.fz A L := by
      intro L hi hx hp2
      clear hp
      simp only [Option.map_eq_some_iff] at hp2
      obtain ⟨L', hp, rfl⟩ := hp2
      have hij : i = j := Nat.eq_of_beq_eq_true hi
      subst hij
      obtain ⟨vs, g1, g2, g3, g4⟩ := partsL_spec h r (i + 1) L' hp
      refine ⟨a.eval x :: vs, by simp [g1], by simp [g2], by simp only [List.map_cons, List.zipIdx_cons, g3], fun k M' v hL hv => ?_⟩
      cases k with
      | zero =>
        simp only [List.getElem?_cons_zero, Option.some.injEq] at hL hv
        subst hL hv
        exact hx
      | succ k => exact g4 k M' v (by simpa using hL) (by simpa using hv)
    simp only [partsL] at hp
    split at hp
    · rename_i L hi hx
      exact fin L hi (eval_p h hx) hp
    · rename_i e L hi hx
      split at hp
      · cases hp
      rename_i he
      have hev := (h.eval x).1
      rw [hx] at hev
      exact fin L hi (fr_sl h.core he hev) hp
    · cases hp
theorem cellN_spec (h : St Y w0 m Mp nv nc M σ a w) {x : Operand} {d : Nat} {y : Sc} (hx : cellN d (evalO nv σ x) = some y) : HF w M.fz y (a.eval x) ∧ wfS d y = true := by
  have hev := (h.eval x).1
  unfold cellN at hx
  split at hx
  · rename_i L hv
    rw [hv] at hev
    split at hx
    · rename_i hb
      injection hx with hx
      subst hx
      rw [← nbeq.1 hb]
      obtain ⟨A, c, g1, g2, g3⟩ := hev
      exact ⟨HF_l.2 ⟨A, c, g1, g2, g3.wide.1⟩, g3.wide.2⟩
    · cases hx
  · rename_i d' L hv
    rw [hv] at hev
    split at hx
    · rename_i hb
      injection hx with hx
      subst hx
      rw [← nbeq.1 hb]
      obtain ⟨A, c, g1, g2, g3, g4⟩ := hev
      exact ⟨HF_l.2 ⟨A, c, g1, g2, g3⟩, g4⟩
    · cases hx
  · rename_i e L hv
    rw [hv] at hev
    split at hx
    · rename_i hb
      injection hx with hx
      subst hx
      rw [← nbeq.1 hb]
      obtain ⟨A, c, g1, g2, g3, g4⟩ := fr_read h.core hev
      exact ⟨HF_l.2 ⟨A, c, g1, g2, g3⟩, g4⟩
    · cases hx
  · cases hx
theorem partsN_spec (h : St Y w0 m Mp nv nc M σ a w) (d : Nat) : ∀ (parts : List (Nat × Operand)) (j : Nat) (L : List Sc), partsN nv σ d j parts = some L →
    ∃ vs : List Value, HL w M.fz L vs ∧ L.length = parts.length ∧ (parts.map fun p => (p.1, a.eval p.2)) = (vs.zipIdx j).map (fun p => (p.2, p.1)) ∧ wfL d L = true
  | [], j, L, hp => by simp only [partsN, Option.some.injEq] at hp; subst hp; exact ⟨[], ⟨rfl, fun i L v h => by simp at h⟩, rfl, rfl, rfl⟩
  | (i, x) :: r, j, L, hp => by
    simp only [partsN] at hp
    split at hp
    · rename_i y hi hx
      simp only [Option.map_eq_some_iff] at hp
      obtain ⟨L', hp, rfl⟩ := hp
      have hij : i = j := Nat.eq_of_beq_eq_true hi
      subst hij
      obtain ⟨vs, g1, g2, g3, g4⟩ := partsN_spec h d r (i + 1) L' hp
      obtain ⟨q1, q2⟩ := cellN_spec h hx
      refine ⟨a.eval x :: vs, ⟨by simp [g1.1], fun k y' v hL hv => ?_⟩, by simp [g2], by simp only [List.map_cons, List.zipIdx_cons, g3], ?_⟩
      · cases k with
        | zero =>
          simp only [List.getElem?_cons_zero, Option.some.injEq] at hL hv
          subst hL hv
          exact q1
        | succ k => exact g1.2 k y' v (by simpa using hL) (by simpa using hv)
      · unfold wfL at g4 ⊢
        rw [List.all_cons, q2, g4]
        rfl
    · cases hp
theorem fill_row : ∀ (L : List Sc) (pre : List Value) (rest : List Value), rest.length = L.length →
    Instr.fill (fun i => some (i * 1, 1)) (pre ++ rest).toArray ((L.zipIdx pre.length).map fun p => (p.2, p.1.val)) = some (pre ++ L.map Sc.val).toArray
  | [], pre, rest, hr => by
    have : rest = [] := List.eq_nil_of_length_eq_zero hr
    subst this
    simp [Instr.fill]
  | y :: L, pre, rest, hr => by
    cases rest with
    | nil => simp at hr
    | cons v rest =>
      have hcells : y.val.cells = #[y.val] := by cases y <;> rfl
      simp only [List.zipIdx_cons, List.map_cons, Instr.fill, hcells]
      rw [if_neg (by simp)]
      have hset : ((#[y.val] : Array Value).zipIdx.foldl (fun cs (x : Value × Nat) => cs.setIfInBounds (pre.length * 1 + x.2) x.1) (pre ++ v :: rest).toArray) = ((pre ++ [y.val]) ++ rest).toArray := by
        simp [List.set_append_right]
      have ih := fill_row L (pre ++ [y.val]) rest (by simpa using hr)
      simp only [List.length_append, List.length_cons, List.length_nil, Nat.zero_add] at ih
      rw [hset, ih]
      simp
theorem val_buildSlice (h : St Y w0 m Mp nv nc M σ a w) (hE : EnvOk P E) {o : Oper} {t : TypeId} {n : Nat} {parts : Array (Nat × Operand)} (ho : o.op = .buildSlice t n parts) {k : AV → Option R} {r : R} (hk : valOp E cl H nv σ (.buildSlice t n parts) k = some r) : Gives P M σ a w o k r := by
  simp only [valOp] at hk
  split at hk
  · rename_i ob e z hs hn
    obtain ⟨⟨e1, ti, e2, e3, e4, e5⟩, _⟩ := hE.sl t e z hs
    simp only [Bool.and_eq_true] at hn
    split at hk
    case h_2 =>
      rename_i he
      split at hk
      case h_2 => cases hk
      rename_i L hdp hp
      have hnn : parts.toList.length = n := Nat.eq_of_beq_eq_true hn.1
      have hn1000 : n < 1000 := by simpa [Nat.blt_eq] using hn.2
      obtain ⟨vs, g1, g2, g3, g4⟩ := partsN_spec h _ _ _ _ hp
      have hw := g4
      have hvc : ∀ v ∈ vs, v.cells = #[v] := fun v hv => by
        obtain ⟨i, hi⟩ := List.getElem?_of_mem hv
        have hlt : i < L.length := by rw [← g1.1]; exact (List.getElem?_eq_some_iff.1 hi).1
        have h1 := g1.2 i _ v (List.getElem?_eq_getElem hlt) hi
        have h2 := wfL_at hw (List.getElem?_eq_getElem hlt)
        obtain ⟨d', hd'⟩ : ∃ d', dep e = d' + 1 := ⟨dep e - 1, by have := dep_pos he; omega⟩
        rw [hd'] at h2
        obtain ⟨K, hK, _⟩ := wf_l h2
        rw [hK] at h1
        obtain ⟨A, c, rfl, _⟩ := HF_l.1 h1
        rfl
      have hfill : ∀ (row : Array Value), row.size = n → Instr.fill (fun i => some (i, 1)) row (List.map (fun p => (p.1, a.eval p.2)) parts.toList) = some vs.toArray := by
        intro row hrow
        have := fill_rowV vs [] row.toList hvc (by rw [Array.length_toList, hrow, g1.1, g2, hnn])
        simp only [List.nil_append, List.length_nil, Array.toArray_toList, Nat.mul_one] at this
        rw [g3]
        exact this
      have hzc : z.val.cells = #[z.val] := by cases z <;> rfl
      have run : (execOp a.eval o).run P w = .ok (.value (.slice (some ⟨w.heap.size, 0, none⟩) n n)) (w.alloc (.cells vs.toArray (unF e))) := by
        have h24 : ¬ (16777216 < n) := by omega
        by_cases h0 : n = 0
        · subst h0
          have hz0 := hfill ((Array.range 0).map fun _ => default) (by simp)
          simp [execOp, ho, Instr.buildSlice, run_underlying e1, run_sizeOf e2, e3, newRow]
          rw [hz0]
          simp
        · have hz1 := hfill ((Array.range n).map (z.val.cells[· % z.val.cells.size]!)) (by simp)
          simp [execOp, ho, Instr.buildSlice, run_underlying e1, run_sizeOf e2, e3, h24, h0, zeroValue, typeInfo, e2, e5, newRow]
          rw [hz1]
          simp
      intro next Q hn'
      have hg : Below w.heap.size w (w.alloc (.cells vs.toArray (unF e))) := (Below.refl _ _).alloc (Nat.le_refl _) _
      have hvl : vs.length = n := by rw [g1.1, g2, hnn]
      refine wp_val run (hn' (.own e L) _ _ hk hg ⟨⟨⟨vs, ?_, g1.keep fun b hb hz => ⟨hg.block b hb, hz, hb⟩⟩, hw⟩, hdp⟩)
      have := World.ownsRow_lit (base := w.heap.size) (e := unF e) (size := 1) w vs.toArray n (Nat.le_refl _) (by unfold maxLen; omega) (by simp [hvl])
      have hLn : L.length = n := by rw [g2, hnn]
      rw [hLn]
      simpa using this
    rename_i he
    split at hk
    case h_2 => cases hk
    rename_i L hp
    have hnn : parts.toList.length = n := Nat.eq_of_beq_eq_true hn.1
    have hn1000 : n < 1000 := by simpa [Nat.blt_eq] using hn.2
    have hlen := parts_length _ _ _ hp
    rw [hnn] at hlen
    have hpe := parts_eval h _ _ _ hp
    have hzc : z.val.cells = #[z.val] := by cases z <;> rfl
    have hfill : ∀ (row : Array Value), row.size = n → Instr.fill (fun i => some (i, 1)) row (List.map (fun p => (p.1, a.eval p.2)) parts.toList) = some (L.map Sc.val).toArray := by
      intro row hrow
      have := fill_row L [] row.toList (by rw [Array.length_toList, hrow, hlen])
      simp only [List.nil_append, List.length_nil, Array.toArray_toList, Nat.mul_one] at this
      rw [hpe]
      exact this
    have run : (execOp a.eval o).run P w = .ok (.value (.slice (some ⟨w.heap.size, 0, none⟩) n n)) (w.alloc (.cells (L.map Sc.val).toArray (unF e))) := by
      have h24 : ¬ (16777216 < n) := by omega
      by_cases h0 : n = 0
      · subst h0
        have hz0 := hfill ((Array.range 0).map fun _ => default) (by simp)
        simp [execOp, ho, Instr.buildSlice, run_underlying e1, run_sizeOf e2, e3, newRow]
        rw [hz0]
        simp
      · have hz1 := hfill ((Array.range n).map (z.val.cells[· % z.val.cells.size]!)) (by simp)
        simp [execOp, ho, Instr.buildSlice, run_underlying e1, run_sizeOf e2, e3, h24, h0, zeroValue, typeInfo, e2, e5, newRow]
        rw [hz1]
        simp
    intro next Q hn'
    refine wp_val run (hn' (.own e L) _ _ hk ((Below.refl _ _).alloc (Nat.le_refl _) _) ?_)
    have := World.ownsRow_lit (base := w.heap.size) (e := e) (size := 1) w (L.map Sc.val).toArray n (Nat.le_refl _) (by unfold maxLen; omega) (by simp [hlen])
    rw [← hlen] at this ⊢
    exact ⟨Row.ofSc he (by simpa [(dep_zero he).2] using this) (parts_sc _ _ _ hp), isN_dp he⟩
  · have hn : (Nat.beq parts.toList.length n && Nat.blt n 1000) = true := by assumption
    split at hk
    · rename_i e LL hll hp
      obtain ⟨e1, ti, e2, e3, e5⟩ := hE.ll t e hll
      simp only [Bool.and_eq_true] at hn
      have hnn : parts.toList.length = n := Nat.eq_of_beq_eq_true hn.1
      have hn1000 : n < 1000 := by simpa [Nat.blt_eq] using hn.2
      obtain ⟨vs, g1, g2, g3, g4⟩ := partsL_spec h _ _ _ hp
      have hvc : ∀ v ∈ vs, v.cells = #[v] := fun v hv => by
        obtain ⟨i, hi⟩ := List.getElem?_of_mem hv
        have hlt : i < LL.length := by rw [← g1]; exact (List.getElem?_eq_some_iff.1 hi).1
        obtain ⟨A, c, rfl, _⟩ := g4 i _ v (List.getElem?_eq_getElem hlt) hi
        rfl
      have hfill : ∀ (row : Array Value), row.size = n → Instr.fill (fun i => some (i, 1)) row (List.map (fun p => (p.1, a.eval p.2)) parts.toList) = some vs.toArray := by
        intro row hrow
        have := fill_rowV vs [] row.toList hvc (by rw [Array.length_toList, hrow, g1, g2, hnn])
        simp only [List.nil_append, List.length_nil, Array.toArray_toList, Nat.mul_one] at this
        rw [g3]
        exact this
      have run : (execOp a.eval o).run P w = .ok (.value (.slice (some ⟨w.heap.size, 0, none⟩) n n)) (w.alloc (.cells vs.toArray e)) := by
        have h24 : ¬ (16777216 < n) := by omega
        by_cases h0 : n = 0
        · subst h0
          have hz0 := hfill ((Array.range 0).map fun _ => default) (by simp)
          simp [execOp, ho, Instr.buildSlice, run_underlying e1, run_sizeOf e2, e3, newRow]
          rw [hz0]
          simp
        · have hz1 := hfill ((Array.range n).map fun x => ([Value.slice none 0 0] : List Value)[x % 1]?.getD default) (by simp)
          simp [execOp, ho, Instr.buildSlice, run_underlying e1, run_sizeOf e2, e3, h24, h0, zeroValue, typeInfo, e2, e5, newRow, Value.cells]
          rw [hz1]
          simp
      intro next Q hn'
      refine wp_val run (hn' (.p (.ll LL)) _ _ hk ((Below.refl _ _).alloc (Nat.le_refl _) _) (NV_of (by simp) ?_))
      have hg : Below w.heap.size w (w.alloc (.cells vs.toArray e)) := (Below.refl _ _).alloc (Nat.le_refl _) _
      have hfz : M.fz w.heap.size := by
        refine ⟨h.core.sub _ (h.fresh _ (Nat.le_refl _)), ?_⟩
        cases hq : M.ow w.heap.size with
        | none => rfl
        | some q => have := (h.core.low _ _ hq).1; omega
      have hln : LL.length = n := by rw [g2, hnn]
      refine ⟨some ⟨w.heap.size, 0, none⟩, n, by rw [hln], by omega, .inr ⟨_, rfl, hfz, fun j L hL => ?_⟩⟩
      have hlt : j < vs.length := by rw [g1]; exact (List.getElem?_eq_some_iff.1 hL).1
      obtain ⟨A, c, q1, q2, q3⟩ := g4 j L _ hL (List.getElem?_eq_getElem hlt)
      refine ⟨A, c, ?_, q2, q3.keep fun b hb hf => ⟨hg.block b hb, hf⟩⟩
      rw [Addr.add_lit, Nat.zero_add]
      have hcell := heap_alloc_new w (.cells vs.toArray e)
      simp only [World.cell?, hcell]
      simp [hlt, q1]
    · cases hk
  · cases hk
theorem val_makeSlice (h : St Y w0 m Mp nv nc M σ a w) (hE : EnvOk P E) {o : Oper} {t : TypeId} {x y : Operand} (ho : o.op = .makeSlice t x y) {k : AV → Option R} {r : R} (hk : valOp E cl H nv σ (.makeSlice t x y) k = some r) : Gives P M σ a w o k r := by
  simp only [valOp] at hk
  split at hk
  · rename_i e z kx m ky c hs hx hy
    split at hk
    · cases hk
    rename_i he
    obtain ⟨⟨e1, ti, e2, e3, e4, e5⟩, hzs⟩ := hE.sl t e z hs
    rw [(dep_zero he).2] at e1 e2
    rw [(dep_zero he).1] at hzs
    rcases br_some hk with ⟨h1, h2⟩ | ⟨_, h2⟩
    · simp only [Bool.and_eq_true, decide_eq_true_eq] at h1
      obtain ⟨h1, h3, h4⟩ := h1
      have hlim : c ≤ 1099511627776 := by unfold lim at h4; exact h4
      have hzc : z.val.cells = #[z.val] := by cases z <;> rfl
      have hbytes : (ti.bytes : Int) * c ≤ 281474976710656 := by
        have hb : (ti.bytes : Int) ≤ 32 := by omega
        have h0 : 0 ≤ c := by omega
        calc (ti.bytes : Int) * c ≤ 32 * c := Int.mul_le_mul_of_nonneg_right hb h0
          _ ≤ 281474976710656 := by omega
      have hr := run_make (P := P) w t e ti z.val e1 e2 e5 kx ky m c h1 h3 hbytes (by omega)
      have run : (execOp a.eval o).run P w = .ok (.value (.slice (some ⟨w.heap.size, 0, none⟩) m.toNat c.toNat)) (w.alloc (.cells (madeCells z.val.cells (c.toNat * ti.size)) e)) := by
        simp only [execOp, ho, eval_sc h hx, eval_sc h hy, Sc.val, Sem.run_bind, hr, Result.andThen_ok, Sem.run_pure]
      intro next Q hn'
      refine wp_val run (hn' (.own e (List.replicate m.toNat z)) _ _ h2 ((Below.refl _ _).alloc (Nat.le_refl _) (.cells (madeCells z.val.cells (c.toNat * ti.size)) e)) ?_)
      refine ⟨Row.ofSc he ?_ (fun y hy => by rw [(List.mem_replicate.1 hy).2]; exact hzs), isN_dp he⟩
      refine ⟨by simp, .inr ⟨w.heap.size, c.toNat, madeCells z.val.cells (c.toNat * ti.size), by simp, Nat.le_refl _, heap_alloc_new w _, by simp; omega, by unfold maxLen; omega, by simp [size_madeCells, e3], ?_⟩⟩
      rw [hzc, e3, Nat.mul_one, toList_madeCells_one]
      simp
      omega
    · cases h2
  · cases hk
theorem pvs_spec : ∀ {l : List AV} {fs : List Pv}, pvs l = some fs → l = fs.map .p
  | [], fs, h => by simp only [pvs, Option.some.injEq] at h; subst h; rfl
  | v :: r, fs, h => by
    unfold pvs at h
    split at h
    · rename_i he; cases he
    · rename_i x r' he
      injection he with he1 he2
      subst he1 he2
      simp only [Option.map_eq_some_iff] at h
      obtain ⟨ys, h1, rfl⟩ := h
      rw [pvs_spec h1]
      rfl
    · cases h
theorem val_makeFunc (h : St Y w0 m Mp nv nc M σ a w) {o : Oper} {f : Fn} {first cap : Array Operand} (ho : o.op = .makeFunc f first cap) {k : AV → Option R} {r : R} (hk : valOp E cl H nv σ (.makeFunc f first cap) k = some r) : Gives P M σ a w o k r := by
  cases f with
  | func f =>
    simp only [valOp] at hk
    split at hk
    · rename_i fs hf hp
      have hf' : first = #[] := Array.toList_inj.1 hf
      subst hf'
      have hp' := pvs_spec hp
      have run : (execOp a.eval o).run P w = .ok (.value (.func (.func f) #[] (cap.toList.map a.eval).toArray)) w := by
        have e1 : cap.map a.eval = (cap.toList.map a.eval).toArray := by apply Array.ext'; simp
        simp [execOp, ho, Instr.makeFunc, e1]
      refine gives_val run hk ⟨cap.toList.map a.eval, rfl, ?_, fun i y z hy hz => ?_⟩
      · have := congrArg List.length hp'
        simpa using this
      · simp only [List.getElem?_map, Option.map_eq_some_iff] at hz
        obtain ⟨q, hq, rfl⟩ := hz
        have h1 : (cap.toList.map (evalO nv σ))[i]? = some (.p y) := by rw [hp', List.getElem?_map, hy]; rfl
        simp only [List.getElem?_map, Option.map_eq_some_iff] at h1
        obtain ⟨q', hq', h2⟩ := h1
        rw [hq] at hq'
        injection hq' with hq'
        subst hq'
        exact eval_p h h2
    · cases hk
  | _ => simp [valOp] at hk
def BoundIs (v : Option Value) (dfl l : Int) : Prop := (v = none ∧ l = dfl) ∨ ∃ k, v = some (.int k l)
theorem bound_is (h : St Y w0 m Mp nv nc M σ a w) {dfl l : Int} {x : Option Operand} (hb : boundA nv σ dfl x = some l) : BoundIs (x.map a.eval) dfl l := by
  unfold boundA at hb
  split at hb
  · simp only [Option.some.injEq] at hb; exact .inl ⟨rfl, hb.symm⟩
  · split at hb
    · rename_i k i hx
      simp only [Option.some.injEq] at hb
      subst hb
      exact .inr ⟨k, by simp [eval_sc h hx, Sc.val]⟩
    · cases hb
theorem run_bounds {isSl : Bool} {n c : Nat} {lo hi : Option Value} {l h : Int} (hl : BoundIs lo 0 l) (hh : BoundIs hi n h) (h0 : 0 ≤ l) (h1 : l ≤ h) (h2 : h ≤ n) (h3 : n ≤ c) :
    (Instr.sliceBounds isSl n c lo hi none).run P w = .ok (l.toNat, h.toNat, c) w := by
  have e1 : (0 ≤ h ∧ h ≤ (c : Int)) := by omega
  have e2 : (0 ≤ l ∧ l ≤ (h.toNat : Int)) := by omega
  rcases hl with ⟨rfl, rfl⟩ | ⟨k, rfl⟩
  · rcases hh with ⟨rfl, rfl⟩ | ⟨k', rfl⟩
    · simp [Instr.sliceBounds]
    · simp [Instr.sliceBounds, Instr.sliceBound, asIntOf, e1]
  · rcases hh with ⟨rfl, rfl⟩ | ⟨k', rfl⟩
    · have e3 : (0 ≤ l ∧ l ≤ (n : Int)) := by omega
      simp [Instr.sliceBounds, Instr.sliceBound, asIntOf, e3]
    · have e4 : l ≤ max h 0 := by omega
      simp [Instr.sliceBounds, Instr.sliceBound, asIntOf, e1, h0, e4]
theorem Rd_slice {X : Nat → Prop} {A : Option Addr} {L : List Sc} {l h : Int} {c : Nat} (hr : Rd w X A L) (h0 : 0 ≤ l) (h1 : l ≤ h) (h2 : h ≤ L.length) (h3 : L.length ≤ c) :
    Rd w X (if c = l.toNat then A else A.map (·.add l.toNat)) (sliceA L l h) ∧ (sliceA L l h).length = h.toNat - l.toNat := by
  have hlen : (sliceA L l h).length = h.toNat - l.toNat := by
    simp only [sliceA, List.length_drop, List.length_take]
    omega
  refine ⟨?_, hlen⟩
  by_cases he : l = h
  · left
    apply List.eq_nil_of_length_eq_zero
    rw [hlen]
    omega
  · rw [if_neg (by omega)]
    rcases hr with rfl | ⟨ad, rfl, hx, hc⟩
    · simp at h2; omega
    · right
      refine ⟨ad.add l.toNat, rfl, by rw [block_of_add]; exact hx, fun j x hj => ?_⟩
      have hadd : (ad.add l.toNat).add j = ad.add (l.toNat + j) := by
        unfold Addr.add
        by_cases hi : l.toNat = 0 <;> by_cases hj' : j = 0 <;> simp [hi, hj', Nat.add_assoc]
      rw [hadd]
      apply hc
      simp only [sliceA, List.getElem?_drop, List.getElem?_take] at hj
      split at hj
      · exact hj
      · cases hj
theorem sliceA_len {L : List Sc} {l h : Int} (h2 : h ≤ L.length) : (sliceA L l h).length = h.toNat - l.toNat := by
  simp only [sliceA, List.length_drop, List.length_take]
  omega
theorem sliceA_at {L : List Sc} {l h : Int} {j : Nat} {y : Sc} (hj : (sliceA L l h)[j]? = some y) : L[l.toNat + j]? = some y := by
  simp only [sliceA, List.getElem?_drop, List.getElem?_take] at hj
  split at hj
  · exact hj
  · cases hj
theorem wfL_slice {d : Nat} {L : List Sc} {l h : Int} (hw : wfL d L = true) : wfL d (sliceA L l h) = true := by
  unfold wfL
  rw [List.all_eq_true]
  intro y hy
  obtain ⟨j, hj⟩ := List.getElem?_of_mem hy
  exact wfL_at hw (sliceA_at hj)
theorem RdN_slice {X : Nat → Prop} {A : Option Addr} {L : List Sc} {l h : Int} {c : Nat} (hr : RdN w X A L) (h0 : 0 ≤ l) (h1 : l ≤ h) (h2 : h ≤ L.length) (h3 : L.length ≤ c) :
    RdN w X (if c = l.toNat then A else A.map (·.add l.toNat)) (sliceA L l h) := by
  by_cases he : l = h
  · left
    apply List.eq_nil_of_length_eq_zero
    rw [sliceA_len h2]
    omega
  · rw [if_neg (by omega)]
    rcases hr with rfl | ⟨ad, rfl, hx, hc⟩
    · simp at h2; omega
    · right
      refine ⟨ad.add l.toNat, rfl, by rw [block_of_add]; exact hx, fun j x hj => ?_⟩
      have hadd : (ad.add l.toNat).add j = ad.add (l.toNat + j) := by
        unfold Addr.add
        by_cases hi : l.toNat = 0 <;> by_cases hj' : j = 0 <;> simp [hi, hj', Nat.add_assoc]
      rw [hadd]
      exact hc _ _ (sliceA_at hj)
theorem run_sliceAt_list {t e : TypeId} {ti : TypeInfo} (e1 : P.underlying t = some (.slice e)) (e2 : P.info? e = some ti) (e3 : ti.size = 1) {A : Option Addr} {n c : Nat} {lo hi : Option Value} {l h : Int} (hl : BoundIs lo 0 l) (hh : BoundIs hi n h) (h0 : 0 ≤ l) (h1 : l ≤ h) (h2 : h ≤ n) (h3 : n ≤ c) :
    (Instr.sliceAt t (.slice A n c) lo hi none).run P w = .ok (.slice (if c = l.toNat then A else A.map (·.add l.toNat)) (h.toNat - l.toNat) (c - l.toNat)) w := by
  simp [Instr.sliceAt, run_underlying e1, Instr.slice, run_bounds hl hh h0 h1 h2 h3, run_sizeOf e2, e3]
theorem val_slice (h : St Y w0 m Mp nv nc M σ a w) (hE : EnvOk P E) {o : Oper} {t : TypeId} {x : Operand} {lo hi mx : Option Operand} (ho : o.op = .slice t x lo hi mx) {k : AV → Option R} {r : R} (hk : valOp E cl H nv σ (.slice t x lo hi mx) k = some r) : Gives P M σ a w o k r := by
  cases mx with
  | some mx => simp [valOp] at hk
  | none =>
  have fin : ∀ {y : TypeId × Sc} {A : Option Addr} {c : Nat} {L : List Sc} {l u : Int} {v : AV}, look E.sl t = some y → a.eval x = .slice A L.length c → L.length ≤ c → (∀ A' c', (sliceA L l u).length ≤ c' → (A' = if c = l.toNat then A else A.map (·.add l.toNat)) → NV M w w σ v (.slice A' (sliceA L l u).length c')) →
      boundA nv σ 0 lo = some l → boundA nv σ L.length hi = some u → (0 ≤ l ∧ l ≤ u ∧ u ≤ L.length) → k v = some r → Gives P M σ a w o k r := by
    intro y A c L l u v hs h3 h4 h5 hl hu h1 h2
    obtain ⟨⟨e1, ti, e2, e3, _⟩, _⟩ := hE.sl t y.1 y.2 hs
    have hr := run_sliceAt_list (P := P) (w := w) e1 e2 e3 (A := A) (bound_is h hl) (bound_is h hu) h1.1 h1.2.1 h1.2.2 h4
    have hlen := sliceA_len (L := L) (l := l) h1.2.2
    have run : (execOp a.eval o).run P w = .ok (.value (.slice (if c = l.toNat then A else A.map (·.add l.toNat)) (u.toNat - l.toNat) (c - l.toNat))) w := by
      simp only [execOp, ho, h3, Option.map_none, Sem.run_bind, hr, Result.andThen_ok, Sem.run_pure]
    have := h5 _ (c - l.toNat) (by rw [hlen]; omega) rfl
    rw [hlen] at this
    exact gives_val run h2 this
  simp only [valOp] at hk
  split at hk
  · rename_i y L hs hx
    split at hk
    · rename_i l u hl hu
      rcases br_some hk with ⟨h1, h2⟩ | ⟨_, h2⟩
      · simp only [Bool.and_eq_true, decide_eq_true_eq] at h1
        obtain ⟨A, c, h3, h4, h5⟩ := eval_p h hx
        exact fin (v := .p (.sl (sliceA L l u))) hs h3 h4 (fun A' c' g1 g2 => ⟨A', c', rfl, g1, g2 ▸ (Rd_slice h5 h1.1 h1.2.1 h1.2.2 h4).1⟩) hl hu h1 h2
      · cases h2
    · cases hk
  · rename_i y e' L hs hx
    split at hk
    · rename_i l u hl hu
      rcases br_some hk with ⟨h1, h2⟩ | ⟨_, h2⟩
      · simp only [Bool.and_eq_true, decide_eq_true_eq] at h1
        have hev := (h.eval x).1
        rw [hx] at hev
        obtain ⟨A, c, h3, h4, h5, h6⟩ := fr_read h.core hev
        refine fin (v := .p (slv e' (sliceA L l u))) hs h3 h4 (fun A' c' g1 g2 => ?_) hl hu h1 h2
        exact slv_of (σ := σ) rfl g1 (g2 ▸ RdN_slice h5 h1.1 h1.2.1 h1.2.2 h4) (wfL_slice h6)
      · cases h2
    · cases hk
  · rename_i y d L hs hx
    split at hk
    · rename_i l u hl hu
      rcases br_some hk with ⟨h1, h2⟩ | ⟨_, h2⟩
      · simp only [Bool.and_eq_true, decide_eq_true_eq] at h1
        obtain ⟨A, c, h3, h4, h5, h6⟩ := eval_p h hx
        exact fin (v := .p (.nl d (sliceA L l u))) hs h3 h4 (fun A' c' g1 g2 => ⟨A', c', rfl, g1, g2 ▸ RdN_slice h5 h1.1 h1.2.1 h1.2.2 h4, wfL_slice h6⟩) hl hu h1 h2
      · cases h2
    · cases hk
  · cases hk
def memNone : Mem := { tm := fun _ => undef, loc := fun _ => none, ow := fun _ => none, fo := fun _ => True, fn := fun _ => True }
theorem roP_V {y : Pv} (h : roP y = true) (s : Nat) : hasV s y = false := by cases y <;> simp_all [roP, hasV]
theorem roP_P {y : Pv} (h : roP y = true) (s : Nat) : hasP s y = false := by cases y <;> simp_all [roP, hasP]
theorem GP.none {y : Pv} {x : Value} (hy : roP y = true) (h : GP M w σ y x) : GP memNone w [] y x :=
  GP.keep (y := y) (σ := σ) (σ' := []) (M := M) (fun s hs => by rw [roP_V hy] at hs; cases hs) (fun q ad hq => by rw [roP_P hy] at hq; cases hq) (fun b _ _ => ⟨rfl, trivial, rfl⟩) h
theorem roA_ok (h : St Y w0 m Mp nv nc M σ a w) {x : Operand} (ha : isArg (roA σ (evalO nv σ x)) = true) : GS memNone w [] 0 (roA σ (evalO nv σ x)) (a.eval x) := by
  have hz : ∀ b, b < w.heap.size → (fun _ : Nat => True) b → w.heap[b]? = w.heap[b]? ∧ memNone.fz b := fun b _ _ => ⟨rfl, trivial, rfl⟩
  have hev := (h.eval x).1
  cases hv : evalO nv σ x with
  | p y =>
    rw [hv] at hev ha
    cases y with
    | al s =>
      simp only [roA] at ha ⊢
      cases ho : ownOf σ s with
      | none =>
        rw [ho] at ha
        cases hd : ownD σ s with
        | none => rw [hd] at ha; simp [isArg] at ha
        | some q =>
          obtain ⟨e, L⟩ := q
          obtain ⟨A, c, h4, h5, h6, h7⟩ := (own_deep h.core hd).read (Z := memNone.fz) fun _ _ _ => ⟨trivial, rfl⟩
          exact ⟨A, c, hev.2.trans h4, h5, h6, h7⟩
      | some q =>
        obtain ⟨e, L⟩ := q
        obtain ⟨A, c, h4, h5, h6, h7⟩ := own_read h.core (ownOf_eq ho) (ownOf_dp ho) (Z := memNone.fz) (fun _ _ _ => ⟨trivial, rfl⟩) (fun _ _ => ⟨trivial, rfl⟩)
        have := slv_of (M := memNone) (σ := []) (e := e) rfl h5 h6 h7
        rw [← h4, ← hev.2] at this
        exact this
    | go s =>
      simp only [roA] at ha ⊢
      cases ho : ownOf σ s with
      | none => rw [ho] at ha; simp [isArg] at ha
      | some q =>
        obtain ⟨e, L⟩ := q
        rw [ho] at ha
        cases he : isN e with
        | true => simp [he, isArg] at ha
        | false =>
          simp only [he]
          obtain ⟨A, c, h4, h5, h6, h7⟩ := own_read h.core (ownOf_eq ho) (ownOf_dp ho) (Z := memNone.fz) (fun _ _ _ => ⟨trivial, rfl⟩) (fun _ _ => ⟨trivial, rfl⟩)
          rw [(dep_zero he).1] at h7
          exact ⟨A, c, by rw [hev.2, h4], h5, Rd_of h6 h7⟩
    | pt b n => simp [roA, isArg, roP] at ha
    | fp b => simp [roA, isArg, roP] at ha
    | sc y => exact hev
    | sl L => exact GP.none (M := M) (w := w) (σ := σ) (y := .sl L) rfl hev
    | gr L => exact GP.none (M := M) (w := w) (σ := σ) (y := .gr L) rfl hev
    | ev y => exact GP.none (M := M) (w := w) (σ := σ) (y := .ev y) rfl hev
    | el L => exact GP.none (M := M) (w := w) (σ := σ) (y := .el L) rfl hev
    | st L => exact GP.none (M := M) (w := w) (σ := σ) (y := .st L) rfl hev
    | ll L => exact GP.none (M := M) (w := w) (σ := σ) (y := .ll L) rfl hev
    | nl d L => exact GP.none (M := M) (w := w) (σ := σ) (y := .nl d L) rfl hev
    | en d L => exact GP.none (M := M) (w := w) (σ := σ) (y := .en d L) rfl hev
  | fr e L =>
    rw [hv] at hev
    exact GP.none (M := M) (w := w) (σ := σ) (y := slv e L) (by unfold slv; cases isN e <;> rfl) (fr_slv h.core hev)
  | _ => rw [hv] at ha; simp [roA, isArg] at ha
theorem canArg_of {v : AV} (h : isArg v = true) : ∀ e L, v ≠ .own e L := by cases v <;> simp_all [isArg]
theorem pre_ro (h : St Y w0 m Mp nv nc M σ a w) {args : Array Operand} (ha : (args.toList.map fun x => roA σ (evalO nv σ x)).all isArg = true) : Pre w memNone [] (args.toList.map fun x => roA σ (evalO nv σ x)) (args.toList.map a.eval) := by
  refine ⟨⟨fun t => trivial, fun k ad hk => (by cases hk), fun b q hb => (by cases hb), fun _ _ => trivial⟩, fun _ _ => trivial, fun k ad hk => (by cases hk), by simp, fun i v x hv hx => ?_⟩
  simp only [List.getElem?_map, Option.map_eq_some_iff] at hv hx
  obtain ⟨p, hp, rfl⟩ := hv
  obtain ⟨q, hq, rfl⟩ := hx
  rw [hp] at hq
  injection hq with hq
  subst hq
  have hin : isArg (roA σ (evalO nv σ p)) = true := by
    rw [List.all_eq_true] at ha
    exact ha _ (List.mem_map.2 ⟨p, List.mem_of_getElem? hp, rfl⟩)
  exact ⟨roA_ok h hin, canArg_of hin⟩
theorem ownsRow_base {e : TypeId} {v : Value} {n B : Nat} {xs : List Value} (h : w.ownsRow 0 e 1 v n xs) (hb : ∀ b, v.ownBlock = some b → B ≤ b) : w.ownsRow B e 1 v n xs := by
  refine ⟨h.1, ?_⟩
  rcases h.2 with h | ⟨g, cap, cur, h1, h2, r⟩
  · exact .inl h
  · exact .inr ⟨g, cap, cur, h1, hb g (by rw [h1]; rfl), r⟩
theorem Row.base {Z : Nat → Prop} {e : TypeId} {v : Value} {B : Nat} {L : List Sc} (h : Row w Z 0 e v L) (hb : ∀ b, v.ownBlock = some b → B ≤ b) : Row w Z B e v L := by
  obtain ⟨⟨vs, h1, h2⟩, h3⟩ := h
  exact ⟨⟨vs, ownsRow_base h1 hb, h2⟩, h3⟩
theorem plains_spec : ∀ {l : List AV} {fs : List Pv}, plains l = some fs → ∃ ys : List Sc, l = ys.map (fun y => .p (.sc y)) ∧ fs = ys.map .sc
  | [], fs, h => by simp only [plains, Option.some.injEq] at h; subst h; exact ⟨[], rfl, rfl⟩
  | v :: r, fs, h => by
    unfold plains at h
    split at h
    · rename_i he; cases he
    · rename_i x r' he
      injection he with he1 he2
      subst he1 he2
      simp only [Option.map_eq_some_iff] at h
      obtain ⟨ys, h1, rfl⟩ := h
      obtain ⟨zs, h2, h3⟩ := plains_spec h1
      exact ⟨x :: zs, by rw [h2]; rfl, by rw [h3]; rfl⟩
    · cases h
theorem NV_packed {w' : World} {M' : Mem} {rs ex : List AV} {xs : List Value} {v : AV} (hfz : ∀ b, w.heap.size ≤ b → M.fz b) (hp : packed rs ex = some v) (hpost : Post w memNone 0 w' M' ex rs xs) : NV M w w' σ v (packV xs) := by
  obtain ⟨hcore, _, hmay, _, _, _, _, _, hlen, hres⟩ := hpost
  unfold packed at hp
  split at hp
  · injection hp with hp; subst hp; trivial
  · rename_i e L
    split at hp
    · cases hp
    rename_i he
    injection hp with hp; subst hp
    match xs, hlen with
    | [x], _ =>
      have h1 := (hres 0 _ x rfl rfl).1
      obtain ⟨_, h1⟩ := h1
      have h2 := hcore.slot 0
      obtain ⟨h3, h4⟩ := (RowO.flat (isN_dp he)).1 h2
      show Row w' (fun b => M.fz b ∧ b < w.heap.size) w.heap.size e x L ∧ dp e = false
      rw [h1]
      refine ⟨?_, isN_dp he⟩
      refine Row.base (h3.keep (fun _ _ => rfl) fun hn => by rw [he] at hn; cases hn) fun b hb => ?_
      rcases hmay b _ (h4 b hb) with ⟨q, hq⟩ | h5
      · cases hq
      · exact h5
  · rename_i e L
    split at hp
    · cases hp
    rename_i he
    injection hp with hp; subst hp
    match xs, hlen with
    | [x], _ =>
      have h1 := (hres 0 _ x rfl rfl).1
      obtain ⟨_, h1⟩ := h1
      have h2 := hcore.slot 0
      obtain ⟨h3, h4⟩ := (RowO.flat (isN_dp he)).1 h2
      obtain ⟨A, c, h5⟩ := h3.slice
      rw [h5] at h3 h4 h1
      obtain ⟨_, h6, h7⟩ := Rd_of_own (Z := M.fz) he h3 fun b hb => by
        rcases hmay b _ (h4 b hb) with ⟨q, hq⟩ | h5
        · cases hq
        · exact hfz b h5
      exact ⟨A, c, h1, h6, h7⟩
  · rename_i y
    injection hp with hp; subst hp
    match xs, hlen with
    | [x], _ => exact (hres 0 _ x rfl rfl).1
  · rename_i rs' n1 n2 n3
    simp only [Option.map_eq_some_iff] at hp
    obtain ⟨fs, hp, rfl⟩ := hp
    obtain ⟨ys, rfl, rfl⟩ := plains_spec hp
    have hpk : packV xs = .tuple xs.toArray := by
      match ys, xs, hlen with
      | [], [], _ => rfl
      | [y], _, _ => exact absurd rfl (n3 y)
      | _ :: _ :: _, _ :: _ :: _, _ => rfl
    refine ⟨xs, hpk, by simpa using hlen, fun i y z hy hz => ?_⟩
    simp only [List.getElem?_map, Option.map_eq_some_iff] at hy
    obtain ⟨q, hq, rfl⟩ := hy
    exact (hres i (.p (.sc q)) z (by simp [hq]) hz).1
  · cases hp
theorem frzA_ok (h : St Y w0 m Mp nv nc M σ a w) {x : Operand} (ha : isArg (frzA (evalO nv σ x)) = true) {M2 : Mem} (hz : ∀ b, b < w.heap.size → M.fz b → w.heap[b]? = w.heap[b]? ∧ M2.fz b) : GS M2 w [] 0 (frzA (evalO nv σ x)) (a.eval x) := by
  have hev := (h.eval x).1
  have mk : ∀ {y : Pv} {z : Value}, roP y = true → GP M w σ y z → GP M2 w [] y z := fun {y z} hy hg => GP.keep (y := y) (σ := σ) (σ' := []) (M := M) (fun s hs => by rw [roP_V hy] at hs; cases hs) (fun q ad hq => by rw [roP_P hy] at hq; cases hq) hz hg
  cases hv : evalO nv σ x with
  | p y =>
    rw [hv] at hev ha
    cases y with
    | al s => simp [frzA, isArg] at ha
    | go s => simp [frzA, isArg] at ha
    | pt b n => simp [frzA, isArg, roP] at ha
    | fp b => simp [frzA, isArg, roP] at ha
    | sc y => exact mk (y := .sc y) rfl hev
    | sl L => exact mk (y := .sl L) rfl hev
    | gr L => exact mk (y := .gr L) rfl hev
    | ev y => exact mk (y := .ev y) rfl hev
    | el L => exact mk (y := .el L) rfl hev
    | st L => exact mk (y := .st L) rfl hev
    | ll L => exact mk (y := .ll L) rfl hev
    | nl d L => exact mk (y := .nl d L) rfl hev
    | en d L => exact mk (y := .en d L) rfl hev
  | fr e L =>
    rw [hv] at hev
    exact mk (y := slv e L) (by unfold slv; cases isN e <;> rfl) (fr_slv h.core hev)
  | _ => rw [hv] at ha; simp [frzA, isArg] at ha
theorem val_soft (h : St Y w0 m Mp nv nc M σ a w) (hE : EnvOk P E) (hcl : CallOk P cl) {o : Oper} {args : Array Operand} {tys : Array TypeId} {f : FuncId} (ho : o.op = .call ⟨.value (.func f), args, tys⟩) {L : List Sc} {k : AV → Option R} {r : R}
    (hall : (args.toList.map fun x => frzA (evalO nv σ x)).all isArg = true) (hrs : cl f (args.toList.map fun x => frzA (evalO nv σ x)) [] = some (true, [.p (.sl L)], [])) (hk : k (.p (.sl L)) = some r) : Gives P M σ a w o k r := by
  obtain ⟨⟨fn, hf, hb⟩, hcall⟩ := (hcl f _ _ _ _ hrs).old rfl
  have hfresh : ∀ b, w.heap.size ≤ b → M.fn b ∧ M.ow b = none := fun b hb' => ⟨h.fresh b hb', by
    cases hq : M.ow b with
    | none => rfl
    | some q => have := (h.core.low _ _ hq).1; omega⟩
  have pre : Pre w { tm := fun _ => undef, loc := fun _ => none, ow := fun _ => none, fo := M.fz, fn := fun b => M.fn b ∧ M.ow b = none } [] (args.toList.map fun x => frzA (evalO nv σ x)) (args.toList.map a.eval) := by
    refine ⟨⟨fun t => trivial, fun k ad hk => (by cases hk), fun b q hb => (by cases hb), fun b hb => ⟨h.core.sub b hb.1, hb.2⟩⟩, hfresh, fun k ad hk => (by cases hk), by simp, fun i v x hv hx => ?_⟩
    simp only [List.getElem?_map, Option.map_eq_some_iff] at hv hx
    obtain ⟨p, hp, rfl⟩ := hv
    obtain ⟨q, hq, rfl⟩ := hx
    rw [hp] at hq
    injection hq with hq
    subst hq
    have hin : isArg (frzA (evalO nv σ p)) = true := by
      rw [List.all_eq_true] at hall
      exact hall _ (List.mem_map.2 ⟨p, List.mem_of_getElem? hp, rfl⟩)
    exact ⟨frzA_ok h hin fun b _ hf => ⟨rfl, hf, rfl⟩, canArg_of hin⟩
  intro next Q hn
  have hc' := hcall w _ _ pre
  unfold Oper.wp
  have run : (execOp a.eval o).run P w = .ok (.enter f (args.toList.map a.eval).toArray) w := by
    have e1 : (args.map a.eval) = (args.toList.map a.eval).toArray := by
      apply Array.ext'
      simp
    simp only [execOp, ho, resolve, Act.eval, Deferred.ofValue, Sem.run_bind, Sem.run_pure, Result.andThen_ok, invoke, Array.append_empty, Array.empty_append, e1]
    rw [run_callFunc hf hb (hE.fn f fn hf hb)]
  rw [run]
  refine hc'.mono fun e w' hpost => ?_
  obtain ⟨xs, M', he, hpost⟩ := hpost
  subst he
  have hbel : Below w.heap.size w w' := ⟨hpost.kept.os, hpost.kept.tape, hpost.kept.output, hpost.kept.size, fun b hb => hpost.kept.block b hb fun ⟨q, hq⟩ => by cases hq⟩
  match xs, hpost.len with
  | [x], _ =>
    obtain ⟨A, c, g1, g2, g3⟩ := (hpost.res 0 _ x rfl rfl).1
    exact hn _ x w' hk hbel ⟨A, c, g1, g2, g3.keep fun b _ hz => ⟨rfl, by have := hz.1; rw [hpost.fo] at this; exact this⟩⟩
theorem val_call (h : St Y w0 m Mp nv nc M σ a w) (hE : EnvOk P E) (hcl : CallOk P cl) {o : Oper} {c : Call} {f : FuncId} (ho : o.op = .call c) (hc : c.callee = .value (.func f)) {k : AV → Option R} {r : R} (hk : valOp E cl H nv σ (.call c) k = some r) : Gives P M σ a w o k r := by
  obtain ⟨cal, args, tys⟩ := c
  simp only at hc
  subst hc
  simp only [valOp] at hk
  split at hk
  · split at hk
    · rename_i hall
      split at hk
      · rename_i g rs ex hrs
        split at hk
        · rename_i v hv
          have hk' : g = true ∧ k v = some r := by
            rcases br_some hk with ⟨h1, h2⟩ | ⟨_, h2⟩
            · exact ⟨h1, h2⟩
            · cases h2
          obtain ⟨rfl, hk⟩ := hk'
          have hnew : isNew [] rs = false := by
            cases hq : isNew [] rs with
            | false => rfl
            | true =>
              exfalso
              unfold isNew at hq
              split at hq
              · revert hv
                cases ex <;> simp [packed, plains]
              · cases hq
          obtain ⟨⟨fn, hf, hb⟩, hcall⟩ := (hcl f _ _ rs ex hrs).old hnew
          intro next Q hn
          have hc' := hcall w memNone _ (pre_ro h hall)
          unfold Oper.wp
          have run : (execOp a.eval o).run P w = .ok (.enter f (args.toList.map a.eval).toArray) w := by
            have e1 : (args.map a.eval) = (args.toList.map a.eval).toArray := by
              apply Array.ext'
              simp
            simp only [execOp, ho, resolve, Act.eval, Deferred.ofValue, Sem.run_bind, Sem.run_pure, Result.andThen_ok, invoke, Array.append_empty, Array.empty_append, e1]
            rw [run_callFunc hf hb (hE.fn f fn hf hb)]
          rw [run]
          refine hc'.mono fun e w' hpost => ?_
          obtain ⟨xs, M', he, hpost⟩ := hpost
          subst he
          have hbel : Below w.heap.size w w' := ⟨hpost.kept.os, hpost.kept.tape, hpost.kept.output, hpost.kept.size, fun b hb => hpost.kept.block b hb fun ⟨q, hq⟩ => by cases hq⟩
          exact hn v _ w' hk hbel (NV_packed (fun b hb => ⟨h.core.sub b (h.fresh b hb), by
            cases hq : M.ow b with
            | none => rfl
            | some q => have := (h.core.low _ _ hq).1; omega⟩) hv hpost)
        · cases hk
      · cases hk
    · cases hk
  · split at hk
    · rename_i hall
      split at hk
      · rename_i g L hrs
        have hk' : g = true ∧ k (.p (.sl L)) = some r := by
          rcases br_some hk with ⟨h1, h2⟩ | ⟨_, h2⟩
          · exact ⟨h1, h2⟩
          · cases h2
        obtain ⟨rfl, hk⟩ := hk'
        exact val_soft h hE hcl ho hall hrs hk
      · cases hk
    · cases hk
  · cases hk
theorem valOp_sound (h : St Y w0 m Mp nv nc M σ a w) (hE : EnvOk P E) (hcl : CallOk P cl) {o : Oper} {op : Op} (ho : o.op = op) {k : AV → Option R} {r : R} (hk : valOp E cl H nv σ op k = some r) : Gives P M σ a w o k r := by
  cases op with
  | move x => exact val_move h ho hk
  | assign x => exact gives_val (by simp [execOp, ho]) hk (h.evalN x)
  | slice t x lo hi mx => exact val_slice h hE ho hk
  | pick c x y => exact val_pick h ho hk
  | fieldAddr t x f => exact val_fieldAddr h hE ho hk
  | nilCheck x =>
    simp only [valOp] at hk
    split at hk
    · rename_i b n hx
      have hev := h.evalN x
      rw [hx] at hev
      obtain ⟨g, h1, _⟩ := eval_p h hx
      exact gives_val (by simp [execOp, ho, h1]) hk hev
    · rename_i b hx
      have hev := h.evalN x
      rw [hx] at hev
      obtain ⟨ad, h1, _⟩ := eval_p h hx
      exact gives_val (by simp [execOp, ho, h1]) hk hev
    · cases hk
  | field t x f => exact val_field h hE ho hk
  | load t x => exact val_load h hE ho hk
  | binOp op t x y t' => exact val_binOp h hE ho hk
  | unOp op t x => exact val_unOp h ho hk
  | convert s d x => exact val_convert h hE ho hk
  | indexAddr t x i => exact val_indexAddr h hE ho hk
  | index t x i => exact val_index h hE ho hk
  | extract x i => exact val_extract h ho hk
  | buildSlice t n parts => exact val_buildSlice h hE ho hk
  | makeSlice t x y => exact val_makeSlice h hE ho hk
  | makeFunc f first cap => exact val_makeFunc h ho hk
  | call c =>
    cases hc : c.callee with
    | builtin b =>
      cases b with
      | len => exact val_len h hE ho hc hk
      | min => exact val_min h ho hc hk
      | max => exact val_max h ho hc hk
      | _ => simp [valOp, hc] at hk
    | value x =>
      cases x with
      | func f => exact val_call h hE hcl ho hc hk
      | _ => simp [valOp, hc] at hk
    | _ => simp [valOp, hc] at hk
  | _ => simp [valOp] at hk
end
end Go.Proofs.YtlnhommmmajllaaGreat.Ev
