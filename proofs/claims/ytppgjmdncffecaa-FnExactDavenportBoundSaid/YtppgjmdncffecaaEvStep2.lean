/-
  EvStep2: slices of slices and strings, append, a struct of one slice; and all operations together.
-/
import Derived.Test.YtppgjmdncffecaaEvStep
namespace Go.Proofs.Ytppgjmdncffecaa.Ev
open Go Go.RowKit

section
variable {P : Program} {E : Env} {cl : Calling} {B : Nat} {w0 w : World} {own : Own} {σ : List AV} {a : Act} {R : Type}

def BoundIs (v : Option Value) (dfl l : Int) : Prop := (v = none ∧ l = dfl) ∨ ∃ k, v = some (.int k l)

theorem bound_is (h : St B w0 own σ a w) {dfl l : Int} {x : Option Operand} (hb : boundA σ dfl x = some l) : BoundIs (x.map a.eval) dfl l := by
  unfold boundA at hb
  split at hb
  · simp only [Option.some.injEq] at hb; exact .inl ⟨rfl, hb.symm⟩
  · split at hb
    · rename_i k i hx
      simp only [Option.some.injEq] at hb
      subst hb
      exact .inr ⟨k, by simp [eval_sc h hx, Sc.val]⟩
    · cases hb

theorem run_bounds {isSl : Bool} {n c : Nat} {lo hi : Option Value} {l h : Int} (hl : BoundIs lo 0 l) (hh : BoundIs hi n h) (h0 : 0 ≤ l) (h1 : l ≤ h) (h2 : h ≤ n) (h3 : n ≤ c) :
    (Instr.sliceBounds isSl n c lo hi none).run P w = .ok (l.toNat, h.toNat, c) w := by
  have e1 : (0 ≤ h ∧ h ≤ (c : Int)) := by omega
  have e2 : (0 ≤ l ∧ l ≤ (h.toNat : Int)) := by omega
  rcases hl with ⟨rfl, rfl⟩ | ⟨k, rfl⟩
  · rcases hh with ⟨rfl, rfl⟩ | ⟨k', rfl⟩
    · simp [Instr.sliceBounds]
    · simp [Instr.sliceBounds, Instr.sliceBound, asIntOf, e1]
  · rcases hh with ⟨rfl, rfl⟩ | ⟨k', rfl⟩
    · have e3 : (0 ≤ l ∧ l ≤ (n : Int)) := by omega
      simp [Instr.sliceBounds, Instr.sliceBound, asIntOf, e3]
    · have e4 : l ≤ max h 0 := by omega
      simp [Instr.sliceBounds, Instr.sliceBound, asIntOf, e1, h0, e4]

theorem Rd_slice {X : Nat → Prop} {A : Option Addr} {L : List Sc} {l h : Int} {c : Nat} (hr : Rd w X A L) (h0 : 0 ≤ l) (h1 : l ≤ h) (h2 : h ≤ L.length) (h3 : L.length ≤ c) :
    Rd w X (if c = l.toNat then A else A.map (·.add l.toNat)) (sliceA L l h) ∧ (sliceA L l h).length = h.toNat - l.toNat := by
  have hlen : (sliceA L l h).length = h.toNat - l.toNat := by
    simp only [sliceA, List.length_drop, List.length_take]
    omega
  refine ⟨?_, hlen⟩
  by_cases he : l = h
  · left
    apply List.eq_nil_of_length_eq_zero
    rw [hlen]
    omega
  · rw [if_neg (by omega)]
    rcases hr with rfl | ⟨ad, rfl, hx, hc⟩
    · simp at h2; omega
    · right
      refine ⟨ad.add l.toNat, rfl, by rw [block_of_add]; exact hx, fun j x hj => ?_⟩
      have hadd : (ad.add l.toNat).add j = ad.add (l.toNat + j) := by
        unfold Addr.add
        by_cases hi : l.toNat = 0 <;> by_cases hj' : j = 0 <;> simp [hi, hj', Nat.add_assoc]
      rw [hadd]
      apply hc
      simp only [sliceA, List.getElem?_drop, List.getElem?_take] at hj
      split at hj
      · exact hj
      · cases hj

theorem run_sliceAt_list {t e : TypeId} {ti : TypeInfo} (e1 : P.underlying t = some (.slice e)) (e2 : P.info? e = some ti) (e3 : ti.size = 1) {A : Option Addr} {n c : Nat} {lo hi : Option Value} {l h : Int} (hl : BoundIs lo 0 l) (hh : BoundIs hi n h) (h0 : 0 ≤ l) (h1 : l ≤ h) (h2 : h ≤ n) (h3 : n ≤ c) :
    (Instr.sliceAt t (.slice A n c) lo hi none).run P w = .ok (.slice (if c = l.toNat then A else A.map (·.add l.toNat)) (h.toNat - l.toNat) (c - l.toNat)) w := by
  simp [Instr.sliceAt, run_underlying e1, Instr.slice, run_bounds hl hh h0 h1 h2 h3, run_sizeOf e2, e3]

theorem step_slice (h : St B w0 own σ a w) (hE : EnvOk P E) {o : Oper} {d : Option Tmp} (hd : o.dst = d) {t : TypeId} {x : Operand} {lo hi mx : Option Operand} (ho : o.op = .slice t x lo hi mx) {k : List AV → Option R} {r : R} (hk : stepOp E cl σ d (.slice t x lo hi mx) k = some r) : Turns P B w0 a w o k r := by
  cases mx with
  | some mx => simp [stepOp, valOp] at hk
  | none =>
  simp only [stepOp] at hk
  have hev := h.eval x
  split at hk
  · rename_i y L hs hx
    obtain ⟨e1, ti, e2, e3, _⟩ := hE.sl t y.1 y.2 hs
    split at hk
    · rename_i l u hl hu
      rcases br_some hk with ⟨h1, h2⟩ | ⟨_, h2⟩
      · simp only [Bool.and_eq_true, decide_eq_true_eq] at h1
        rw [hx] at hev
        obtain ⟨A, c, h3, h4, h5⟩ := hev
        have hr := run_sliceAt_list (P := P) (w := w) e1 e2 e3 (A := A) (bound_is h hl) (bound_is h hu) h1.1 h1.2.1 h1.2.2 h4
        obtain ⟨hrd, hlen⟩ := Rd_slice h5 h1.1 h1.2.1 h1.2.2 h4
        have run : (execOp a.eval o).run P w = .ok (.value (.slice (if c = l.toNat then A else A.map (·.add l.toNat)) (u.toNat - l.toNat) (c - l.toNat))) w := by
          simp only [execOp, ho, h3, Option.map_none, Sem.run_bind, hr, Result.andThen_ok, Sem.run_pure]
        intro next Q hn
        obtain ⟨own', hst⟩ := h.put (Below.refl _ _) (v := .sl (sliceA L l u)) (x := .slice (if c = l.toNat then A else A.map (·.add l.toNat)) (u.toNat - l.toNat) (c - l.toNat)) ⟨_, _, by rw [hlen], by omega, hrd⟩ d
        exact wp_val run (by rw [hd]; exact hn own' _ _ _ h2 hst)
      · cases h2
    · cases hk
  · rename_i y e' L hs hx
    obtain ⟨e1, ti, e2, e3, _⟩ := hE.sl t y.1 y.2 hs
    split at hk
    · rename_i l u hl hu
      rcases br_some hk with ⟨h1, h2⟩ | ⟨_, h2⟩
      · simp only [Bool.and_eq_true, decide_eq_true_eq] at h1
        rw [hx] at hev
        obtain ⟨h3, h3'⟩ := hev
        obtain ⟨A, c, h4⟩ := ownsRow_slice h3
        rw [h4] at h3 h3'
        obtain ⟨_, h6, h5⟩ := Rd_of_own (X := Xo own) h3 h3'
        have hr := run_sliceAt_list (P := P) (w := w) e1 e2 e3 (A := A) (bound_is h hl) (bound_is h hu) h1.1 h1.2.1 h1.2.2 h6
        obtain ⟨hrd, hlen⟩ := Rd_slice h5 h1.1 h1.2.1 h1.2.2 h6
        have run : (execOp a.eval o).run P w = .ok (.value (.slice (if c = l.toNat then A else A.map (·.add l.toNat)) (u.toNat - l.toNat) (c - l.toNat))) w := by
          simp only [execOp, ho, h4, Option.map_none, Sem.run_bind, hr, Result.andThen_ok, Sem.run_pure]
        intro next Q hn
        obtain ⟨own', hst⟩ := h.put (Below.refl _ _) (v := .sl (sliceA L l u)) (x := .slice (if c = l.toNat then A else A.map (·.add l.toNat)) (u.toNat - l.toNat) (c - l.toNat)) ⟨_, _, by rw [hlen], by omega, hrd⟩ d
        exact wp_val run (by rw [hd]; exact hn own' _ _ _ h2 hst)
      · cases h2
    · cases hk
  · rename_i y s hs hx
    obtain ⟨e1, ti, e2, e3, _⟩ := hE.sl t y.1 y.2 hs
    split at hk
    · rename_i e' L ho'
      have hq := ownOf_eq ho'
      split at hk
      · rename_i l u hl hu
        rcases br_some hk with ⟨h1, h2⟩ | ⟨_, h2⟩
        · simp only [Bool.and_eq_true, decide_eq_true_eq] at h1
          rw [hx] at hev
          obtain ⟨e'', L'', h3, h4⟩ := hev
          obtain ⟨hst0, A, c, h5, h6, h7⟩ := h.share hq (getD_lt hq)
          have hx' : a.eval x = .slice A L.length c := h4.symm.trans h5
          have hr := run_sliceAt_list (P := P) (w := w) e1 e2 e3 (A := A) (bound_is h hl) (bound_is h hu) h1.1 h1.2.1 h1.2.2 h6
          obtain ⟨hrd, hlen⟩ := Rd_slice h7 h1.1 h1.2.1 h1.2.2 h6
          have run : (execOp a.eval o).run P w = .ok (.value (.slice (if c = l.toNat then A else A.map (·.add l.toNat)) (u.toNat - l.toNat) (c - l.toNat))) w := by
            simp only [execOp, ho, hx', Option.map_none, Sem.run_bind, hr, Result.andThen_ok, Sem.run_pure]
          intro next Q hn
          obtain ⟨own', hst⟩ := hst0.put (Below.refl _ _) (v := .sl (sliceA L l u)) (x := .slice (if c = l.toNat then A else A.map (·.add l.toNat)) (u.toNat - l.toNat) (c - l.toNat)) ⟨_, _, by rw [hlen], by omega, hrd⟩ d
          exact wp_val run (by rw [hd]; exact hn own' _ _ _ h2 hst)
        · cases h2
      · cases hk
    · cases hk
  · rename_i s hs hx
    split at hk
    · rename_i l u ht hl hu
      rcases br_some hk with ⟨h1, h2⟩ | ⟨_, h2⟩
      · simp only [Bool.and_eq_true, decide_eq_true_eq] at h1
        have hr := run_bounds (P := P) (w := w) (isSl := false) (bound_is h hl) (bound_is h hu) h1.1 h1.2.1 h1.2.2 (Nat.le_refl _)
        have run : (execOp a.eval o).run P w = .ok (.value (.string (s.extract l.toNat u.toNat))) w := by
          simp [execOp, ho, eval_sc h hx, Sc.val, Instr.sliceAt, run_underlying (hE.st t ht), Instr.slice, hr]
        intro next Q hn
        obtain ⟨own', hst⟩ := h.put (Below.refl _ _) (v := .sc (.s (s.extract l.toNat u.toNat))) (x := .string (s.extract l.toNat u.toNat)) rfl d
        exact wp_val run (by rw [hd]; exact hn own' _ _ _ h2 hst)
      · cases h2
    · cases hk
  · cases hk

theorem step_build (h : St B w0 own σ a w) (hE : EnvOk P E) {o : Oper} {d : Option Tmp} (hd : o.dst = d) {t : TypeId} {parts : Array (Nat × Operand)} (ho : o.op = .build t parts) {k : List AV → Option R} {r : R} (hk : stepOp E cl σ d (.build t parts) k = some r)
    (hz : ∀ t s, look E.gr t = some s → ∃ i, P.info? t = some i ∧ ∃ z, i.zero = some (.agg #[z])) : Turns P B w0 a w o k r := by
  simp only [stepOp] at hk
  split at hk
  · rename_i s x hs hparts
    have hp' : parts = #[(0, x)] := Array.toList_inj.1 hparts
    subst hp'
    obtain ⟨fd, i, j, e1, e2, e3, e4, e5, e6, e7, e, e8⟩ := hE.gr t s hs
    obtain ⟨i', z1, z, z2⟩ := hz t s hs
    have run : ∀ (A : Option Addr) (n c : Nat), a.eval x = .slice A n c → (execOp a.eval o).run P w = .ok (.value (.agg #[.slice A n c])) w := by
      intro A n c hx
      simp [execOp, ho, hx, Instr.build, zeroValue, typeInfo, z1, z2, run_underlying e1, Value.cells, run_sizeOf e3, e4, e2, Instr.fill]
    have hev := h.eval x
    split at hk
    · rename_i L hx
      rw [hx] at hev
      obtain ⟨A, c, h1, h2, h3⟩ := hev
      intro next Q hn
      obtain ⟨own', hst⟩ := h.put (Below.refl _ _) (v := .gr L) (x := .agg #[.slice A L.length c]) ⟨A, c, rfl, h2, h3⟩ d
      exact wp_val (run A _ c h1) (by rw [hd]; exact hn own' _ _ _ hk hst)
    · rename_i e' L hx
      rw [hx] at hev
      obtain ⟨h3, h3'⟩ := hev
      obtain ⟨A, c, h4⟩ := ownsRow_slice h3
      rw [h4] at h3 h3'
      obtain ⟨_, h6, h5⟩ := Rd_of_own (X := Xo own) h3 h3'
      intro next Q hn
      obtain ⟨own', hst⟩ := h.put (Below.refl _ _) (v := .gr L) (x := .agg #[.slice A L.length c]) ⟨A, c, rfl, h6, h5⟩ d
      exact wp_val (run A _ c h4) (by rw [hd]; exact hn own' _ _ _ hk hst)
    · rename_i q hx
      split at hk
      · rename_i e' L ho'
        have hq := ownOf_eq ho'
        rw [hx] at hev
        obtain ⟨e'', L'', h3, h4⟩ := hev
        obtain ⟨hst0, A, c, h5, h6, h7⟩ := h.share hq (getD_lt hq)
        intro next Q hn
        obtain ⟨own', hst⟩ := hst0.put (Below.refl _ _) (v := .gr L) (x := .agg #[.slice A L.length c]) ⟨A, c, rfl, h6, h7⟩ d
        exact wp_val (run A _ c (h4.symm.trans h5)) (by rw [hd]; exact hn own' _ _ _ hk hst)
      · cases hk
    · cases hk
  · cases hk

theorem one_cells (L : List Sc) : ∀ v ∈ L.map Sc.val, v.oneCell' = true := by
  intro v hv
  obtain ⟨y, _, rfl⟩ := List.mem_map.1 hv
  cases y <;> rfl

theorem run_append_nothing_at {t ty e : TypeId} {ti : TypeInfo} (e1 : P.underlying t = some (.slice e)) (e2 : P.info? e = some ti) {v : Value} {n : Nat} {xs : List Value} (hown : w.ownsRow B e 1 v n xs) (c : Nat) :
    (Builtin.append_ #[t, t] ty #[v, .slice none 0 c]).run P w = .ok v w := by
  rcases hown.2 with ⟨rfl, rfl⟩ | ⟨g, cap, cur, rfl, _, _, hnc, _⟩
  · simp [Builtin.append_, run_underlying e1, run_sizeOf e2, Builtin.lenOf, Builtin.firstCells]
  · simp [Builtin.append_, run_underlying e1, run_sizeOf e2, Builtin.lenOf, Builtin.firstCells, hnc, storeCells]

theorem step_append (h : St B w0 own σ a w) (hE : EnvOk P E) {o : Oper} {d : Option Tmp} (hd : o.dst = d) {c : Call} (ho : o.op = .call c) (hc : c.callee = .builtin .append) {k : List AV → Option R} {r : R} (hk : stepOp E cl σ d (.call c) k = some r) : Turns P B w0 a w o k r := by
  obtain ⟨cal, args, tys⟩ := c
  simp only at hc
  subst hc
  simp only [stepOp] at hk
  split at hk
  · rename_i x y t t' d' hargs htys
    have ha' : args = #[x, y] := Array.toList_inj.1 hargs
    have ht' : tys = #[t, t'] := Array.toList_inj.1 htys
    subst ha'
    subst ht'
    split at hk
    · rename_i e0 z s hs htt hx
      have htt' : t = t' := Nat.eq_of_beq_eq_true htt
      subst htt'
      split at hk
      · rename_i e L M ho' hM
        have hq := ownOf_eq ho'
        split at hk
        · rename_i hee
          have hee' : e = e0 := Nat.eq_of_beq_eq_true hee
          subst hee'
          rcases br_some hk with ⟨h1, h2⟩ | ⟨_, h2⟩
          · have h1 : L.length + M.length ≤ lim := by simpa using h1
            obtain ⟨e1, ti, e2, e3, e4, e5⟩ := hE.sl t e z hs
            have hev := h.eval x
            rw [hx] at hev
            obtain ⟨e'', L'', h3, h4⟩ := hev
            obtain ⟨h5, h6⟩ := own_at h hq
            obtain ⟨A, cp, h7, h8, h9⟩ := list_of h hM
            have hlim : L.length + M.length ≤ 1099511627776 := by unfold lim at h1; exact h1
            have hb1 : (L.length + M.length) * ti.bytes ≤ 140737488355328 := by
              have : (L.length + M.length) * ti.bytes ≤ 1099511627776 * 16 := Nat.mul_le_mul hlim e4
              omega
            have hzc : z.val.cells.size = 1 := by cases z <;> rfl
            have fin : ∀ (v' : Value) (w' : World), (Builtin.append_ #[t, t] o.type #[a.eval x, a.eval y]).run P w = .ok v' w' → w'.ownsRow B e 1 v' (L ++ M).length ((L ++ M).map Sc.val) → w.grownBy w' (a.tmps.getD s undef).ownBlock →
                (v'.ownBlock = (a.tmps.getD s undef).ownBlock ∨ v'.ownBlock = some w.heap.size) → Turns P B w0 a w o k r := by
              intro v' w' hr ho1 hg hb next Q hn
              have run : (execOp a.eval o).run P w = .ok (.value v') w' := by
                simp [execOp, ho, resolve, invoke, builtin, hr]
              obtain ⟨own', hst⟩ := h.grow (d := d') hq (getD_lt hq) ho1 hg hb
              exact wp_val run (by rw [hd]; exact hn own' _ _ _ h2 hst)
            cases A with
            | none =>
              have hM0 : M = [] := by
                rcases h9 with h9 | ⟨ad, h9, _⟩
                · exact h9
                · cases h9
              subst hM0
              obtain ⟨A', c', h10⟩ := ownsRow_slice h5
              refine fin (a.tmps.getD s undef) w ?_ (by simpa using h5) ⟨rfl, rfl, rfl, Nat.le_refl _, fun _ _ _ => rfl⟩ (.inl rfl)
              rw [← h4, h7]
              exact run_append_nothing_at e1 e2 h5 cp
            | some ad =>
              have hcells : ∀ (j : Nat) (v : Value), (M.map Sc.val)[j]? = some v → w.cell? (ad.add j) = some v := by
                intro j v hj
                rcases h9 with rfl | ⟨ad', h9, _, h10⟩
                · simp at hj
                · injection h9 with h9
                  subst h9
                  simp only [List.getElem?_map, Option.map_eq_some_iff] at hj
                  obtain ⟨q, hq, rfl⟩ := hj
                  exact h10 j q hq
              obtain ⟨v', w', hr, ho1, hg, _, hb⟩ := run_append_own_at (P := P) w B t o.type e ti z.val 1 ti.bytes e1 e2 e5 e3 rfl hzc (by omega) (a.tmps.getD s undef) L.length (L.map Sc.val) h5 ad M.length cp (M.map Sc.val) (by simp) hcells (one_cells M) (by unfold maxLen; omega) hb1 h.base
              refine fin v' w' ?_ (by simpa using ho1) hg hb
              rw [← h4, h7]
              exact hr
          · cases h2
        · cases hk
      · cases hk
    · cases hk
  · cases hk

/-- A call with a soft result: no row is written any more. -/
theorem step_soft (h : St B w0 own σ a w) (hE : EnvOk P E) (hcl : CallOk P cl) {o : Oper} {d : Option Tmp} (hd : o.dst = d) {c : Call} {f : FuncId} (ho : o.op = .call c) (hc : c.callee = .value (.func f)) {rs : List AV} (hs : softCall cl σ f c = some (true, rs)) {k : List AV → Option R} {r : R}
    (hk : k (put (shareAll σ) d (packed rs)) = some r) : Turns P B w0 a w o k r := by
  obtain ⟨cal, args, tys⟩ := c
  simp only at hc
  subst hc
  simp only [softCall] at hs
  split at hs
  · rename_i hall
    split at hs
    · rename_i g rs' hrs
      split at hs
      · simp only [Option.some.injEq, Prod.mk.injEq] at hs
        obtain ⟨rfl, rfl⟩ := hs
        obtain ⟨⟨fn, hf, hb⟩, hcall⟩ := hcl f _ rs' hrs
        intro next Q hn
        have hargs := args_ok h hall
        have hc' := hcall _ w hargs
        unfold Oper.wp
        have run : (execOp a.eval o).run P w = .ok (.enter f (args.toList.map a.eval).toArray) w := by
          have e1 : (args.map a.eval) = (args.toList.map a.eval).toArray := by
            apply Array.ext'
            simp
          simp only [execOp, ho, resolve, Act.eval, Deferred.ofValue, Sem.run_bind, Sem.run_pure, Result.andThen_ok, invoke, Array.append_empty, Array.empty_append, e1]
          rw [run_callFunc hf hb (hE.fn f fn hf hb)]
        rw [run]
        refine hc'.mono fun e w' hpost => ?_
        obtain ⟨xs, he, hret, hbel⟩ := hpost
        subst he
        have h' := h.shareAll
        obtain ⟨own', hst⟩ := h'.put hbel (NV_packed h' (.inr fun b ⟨q, hq⟩ => by cases hq) hret) d
        simp only []
        rw [hd]
        exact hn own' _ _ _ hk hst
      · cases hs
    · cases hs
  · cases hs

/-- What more is asked of the types (a struct's zero). -/
def ZeroOk (P : Program) (E : Env) : Prop := ∀ t s, look E.gr t = some s → ∃ i, P.info? t = some i ∧ ∃ z, i.zero = some (.agg #[z])

theorem stepOp_sound (h : St B w0 own σ a w) (hE : EnvOk P E) (hz : ZeroOk P E) (hcl : CallOk P cl) {o : Oper} {d : Option Tmp} (hd : o.dst = d) {op : Op} (ho : o.op = op) {k : List AV → Option R} {r : R} (hk : stepOp E cl σ d op k = some r) : Turns P B w0 a w o k r := by
  cases op with
  | assign x => exact step_assign h hd ho hk
  | store t p x => exact step_store h hE hd ho hk
  | buildSlice t n parts => exact step_buildSlice h hE hd ho hk
  | makeSlice t x y => exact step_makeSlice h hE hd ho hk
  | build t parts => exact step_build h hE hd ho hk hz
  | slice t x lo hi mx => exact step_slice h hE hd ho hk
  | call c =>
    cases hc : c.callee with
    | builtin b =>
      cases b with
      | append => exact step_append h hE hd ho hc hk
      | _ => exact turns_of_gives h hd (valOp_sound h hE hcl ho (by simpa [stepOp, hc] using hk))
    | value x =>
      cases x with
      | func f =>
        simp only [stepOp, hc] at hk
        split at hk
        · rename_i g rs hs
          rcases br_some hk with ⟨h1, h2⟩ | ⟨_, h2⟩
          · subst h1
            exact step_soft h hE hcl hd ho hc hs h2
          · cases h2
        · exact turns_of_gives h hd (valOp_sound h hE hcl ho hk)
      | _ => exact turns_of_gives h hd (valOp_sound h hE hcl ho (by simpa [stepOp, hc] using hk))
    | _ => exact turns_of_gives h hd (valOp_sound h hE hcl ho (by simpa [stepOp, hc] using hk))
  | _ => exact turns_of_gives h hd (valOp_sound h hE hcl ho hk)
end
end Go.Proofs.Ytppgjmdncffecaa.Ev
