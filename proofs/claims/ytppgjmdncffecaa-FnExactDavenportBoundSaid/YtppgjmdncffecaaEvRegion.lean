/-
  EvRegion: a region in its own order.
-/
import Derived.Test.YtppgjmdncffecaaEvStep2
namespace Go.Proofs.Ytppgjmdncffecaa.Ev
open Go Go.RowKit

section
variable {P : Program} {E : Env} {cl : Calling} {B : Nat} {w0 w : World} {own : Own} {σ : List AV} {a : Act} {R : Type}

theorem set_self {d : Nat} {v : AV} (h : σ.getD d .u = v) (hv : v ≠ .u) : σ.set d v = σ := by
  have hd : d < σ.length := by
    rcases Nat.lt_or_ge d σ.length with hl | hl
    · exact hl
    · simp [List.getD, List.getElem?_eq_none hl] at h; exact absurd h.symm hv
  apply List.ext_getElem?
  intro i
  rw [List.getElem?_set]
  split
  · rename_i hi
    subst hi
    rw [← h]
    simp [List.getD, hd]
  · rfl

/-- What a guard's slot says. -/
theorem yielded_sc (h : St B w0 own σ a w) {all : Array Oper} {j d : Nat} {x : Bool} (hd : (all[j]?).bind (·.dst) = some d) (hx : σ.getD d .u = .sc (.b x)) : yielded all a.tmps j = some x := by
  have hl : d < σ.length := by
    rcases Nat.lt_or_ge d σ.length with hl | hl
    · exact hl
    · simp [List.getD, List.getElem?_eq_none hl] at hx
  have hs := h.slot d hl
  rw [hx] at hs
  have hs : a.tmps.getD d undef = .bool x := hs
  have hl' : d < a.tmps.size := by rw [h.size]; exact hl
  have hg : a.tmps[d]? = some (.bool x) := by
    rw [Array.getElem?_eq_getElem hl', ← hs]
    simp [Array.getD, hl']
  simp [yielded, hd, hg]
theorem yielded_und (h : St B w0 own σ a w) {all : Array Oper} {j d : Nat} (hd : (all[j]?).bind (·.dst) = some d) (hx : σ.getD d .u = .und) : yielded all a.tmps j = none := by
  have hl : d < σ.length := by
    rcases Nat.lt_or_ge d σ.length with hl | hl
    · exact hl
    · simp [List.getD, List.getElem?_eq_none hl] at hx
  have hs := h.slot d hl
  rw [hx] at hs
  have hs : a.tmps.getD d undef = undef := hs
  have hl' : d < a.tmps.size := by rw [h.size]; exact hl
  have hg : a.tmps[d]? = some undef := by
    rw [Array.getElem?_eq_getElem hl', ← hs]
    simp [Array.getD, hl']
  simp [yielded, hd, hg, undef]

theorem goOps_then (hE : EnvOk P E) (hz : ZeroOk P E) (hcl : CallOk P cl) {all : Array Oper} {Q : Exit → Act → World → Prop} {k : List AV → Option R} {r : R} {tail : List Oper}
    (hQ : ∀ own' σ' a' w', k σ' = some r → St B w0 own' σ' a' w' → wpList P all Q tail a' w') :
    ∀ (l : List Oper) {own : Own} {σ : List AV} {a : Act} {w : World}, St B w0 own σ a w → goOps E cl false all l σ k = some r → wpList P all Q (l ++ tail) a w
  | [], _, _, _, _, h, hk => hQ _ _ _ _ hk h
  | o :: rest, own, σ, a, w, h, hk => by
    have one : ∀ {σ' : List AV}, σ' = σ → oneOp E cl false σ' o (fun σ' => goOps E cl false all rest σ' k) = some r → o.wp P a w (wpList P all Q (rest ++ tail)) Q := by
      intro σ' he hone
      subst he
      have hone' : stepOp E cl σ' o.dst o.op (fun σ' => goOps E cl false all rest σ' k) = some r := hone
      exact stepOp_sound h hE hz hcl rfl rfl hone' _ _ fun own' σ' a' w' hk' hst => goOps_then hE hz hcl hQ rest hst hk'
    have skip : ∀ {σ' : List AV}, σ' = σ → skipOp false σ' o (fun σ' => goOps E cl false all rest σ' k) = some r → wpList P all Q (rest ++ tail) (a.put o.dst undef) w := by
      intro σ' he hskip
      subst he
      obtain ⟨own', hst⟩ := h.put (Below.refl _ _) (v := .und) (x := undef) rfl o.dst
      exact goOps_then hE hz hcl hQ rest hst hskip
    unfold goOps at hk
    rw [List.cons_append]
    unfold wpList
    split at hk
    · rename_i hg
      rw [if_pos (by simp [Region.wanted, hg])]
      exact .inl (one rfl hk)
    · rename_i j want hg
      split at hk
      · rename_i d hd
        split at hk
        · rename_i x hx
          have hy := yielded_sc h hd hx
          rcases br_some hk with ⟨h1, h2⟩ | ⟨h1, h2⟩
          · have hxw : x = want := by simpa using h1
            subst hxw
            rw [if_pos (by simp [Region.wanted, hg, hy])]
            exact .inl (one (set_self hx (by simp)) h2)
          · have hxw : x = !want := by cases x <;> cases want <;> simp_all
            subst hxw
            rw [if_neg (by simp [Region.wanted, hg, hy])]
            exact skip (set_self hx (by simp)) h2
        · rename_i hx
          have hy := yielded_und h hd hx
          rw [if_neg (by simp [Region.wanted, hg, hy])]
          exact skip rfl hk
        · cases hk
      · cases hk
theorem goOps_sound (hE : EnvOk P E) (hz : ZeroOk P E) (hcl : CallOk P cl) {all : Array Oper} {Q : Exit → Act → World → Prop} {k : List AV → Option R} {r : R}
    (hQ : ∀ own' σ' a' w', k σ' = some r → St B w0 own' σ' a' w' → Q .normal a' w') (l : List Oper) {own : Own} {σ : List AV} {a : Act} {w : World} (h : St B w0 own σ a w) (hk : goOps E cl false all l σ k = some r) : wpList P all Q l a w := by
  have := goOps_then (tail := []) hE hz hcl (Q := Q) (fun own' σ' a' w' h1 h2 => hQ own' σ' a' w' h1 h2) l h hk
  rwa [List.append_nil] at this

theorem cellTail_spec : ∀ {l f : List Oper} {o1 o2 : Oper}, cellTail l = some (f, o1, o2) → l = f ++ [o1, o2]
  | [], _, _, _, h => by cases h
  | o :: r, f, o1, o2, h => by
    unfold cellTail at h
    split at h
    · split at h
      · simp only [Option.some.injEq, Prod.mk.injEq] at h
        obtain ⟨rfl, rfl, rfl⟩ := h
        rfl
      · cases h
    · obtain ⟨⟨f', a, b⟩, h1, h2⟩ := Option.map_eq_some_iff.1 h
      simp only [Prod.mk.injEq] at h2
      obtain ⟨rfl, rfl, rfl⟩ := h2
      rw [cellTail_spec h1]
      rfl
theorem isTmp_eq {d : Nat} {x : Operand} (h : isTmp d x = true) : x = .tmp d := by
  cases x with
  | tmp t => rw [Nat.eq_of_beq_eq_true h]
  | _ => cases h
theorem eval_put_other {d : Nat} {x : Operand} {v : Value} (h : notTmp d x = true) : (a.put (some d) v).eval x = a.eval x := by
  cases x with
  | tmp t =>
    have htd : d ≠ t := fun e => by subst e; simp [notTmp] at h
    exact agetD_set_other _ _ _ _ _ htd
  | _ => rfl

/-- A new variable for a struct, laid at once. -/
theorem cellOp_sound (hE : EnvOk P E) (hz : ZeroOk P E) {all : Array Oper} {Q : Exit → Act → World → Prop} {k : List AV → Option R} {r : R} {o1 o2 : Oper} (h : St B w0 own σ a w) (hk : cellOp E σ o1 o2 k = some r)
    (hQ : ∀ own' σ' a' w', k σ' = some r → St B w0 own' σ' a' w' → Q .normal a' w') : wpList P all Q [o1, o2] a w := by
  unfold cellOp at hk
  split at hk
  · rename_i t d t' p x h1 h2 h3
    split at hk
    · rename_i s L hs hx hc
      simp only [Bool.and_eq_true] at hc
      obtain ⟨c1, c2, c3, c6, c4, c5⟩ := hc
      have c6 : d < σ.length := Nat.le_of_ble_eq_true c6
      have htt : t = t' := Nat.eq_of_beq_eq_true c1
      subst htt
      have hp := isTmp_eq c2
      subst hp
      obtain ⟨i, hi, z, hiz⟩ := hz t s hs
      obtain ⟨fd, ti, j, e1, e2, e3, e4, e5, e6, e7⟩ := hE.gr t s hs
      have hev := h.eval x
      rw [hx] at hev
      obtain ⟨A, c, g1, g2, g3⟩ := hev
      have hij : j = i := by rw [e5] at hi; injection hi
      subst hij
      let w1 := w.alloc (.cells #[z] t)
      have run1 : (execOp a.eval o1).run P w = .ok (.value (.pointer (some ⟨w.heap.size, 0, none⟩))) w1 := by
        simp [execOp, h1, Instr.alloc, zeroValue, typeInfo, hi, hiz, newVar, newRow, Value.cells, w1]
      have hcell : w1.cell? ⟨w.heap.size, 0, none⟩ = some z := by
        have hnew := heap_alloc_new w (.cells #[z] t)
        simp only [World.cell?, w1, hnew]
        rfl
      have hfro : w1.frozen? ⟨w.heap.size, 0, none⟩ = false := by simp [w1, go_sem]
      have heq : (a.put (some d) (.pointer (some ⟨w.heap.size, 0, none⟩))).eval x = .agg #[.slice A L.length c] := (eval_put_other c3).trans g1
      have heqp : (a.put (some d) (.pointer (some ⟨w.heap.size, 0, none⟩))).eval (.tmp d) = .pointer (some ⟨w.heap.size, 0, none⟩) := agetD_set_same _ _ _ _ (by rw [h.size]; exact c6)
      let w2 := w1.setCell ⟨w.heap.size, 0, none⟩ (.slice A L.length c)
      have hst : (store ⟨w.heap.size, 0, none⟩ (.slice A L.length c)).run P w1 = .ok () w2 := by
        rw [run_store P w1 _ _ .plain rfl]
        simp [hcell, hfro, w2]
      have run2 : (execOp (a.put (some d) (.pointer (some ⟨w.heap.size, 0, none⟩))).eval o2).run P w1 = .ok .skip w2 := by
        simp [execOp, h3, heq, heqp, Instr.storeAt, Instr.sureAddr, storeVar, run_sizeOf hi, e6, Value.cells, storeCells, Addr.add_zero', hst]
      have hB1 : Below w.heap.size w w1 := (Below.refl _ _).alloc (Nat.le_refl _) _
      have hB2 : Below w.heap.size w w2 := hB1.setCell (Nat.le_refl _) _
      have hc2 : w2.cell? ⟨w.heap.size, 0, none⟩ = some (.slice A L.length c) := by
        simp [w2, go_sem, hcell]
      obtain ⟨own1, hst1⟩ := h.put hB2 (v := .bp L) (x := .pointer (some ⟨w.heap.size, 0, none⟩)) ⟨⟨w.heap.size, 0, none⟩, A, c, rfl, notin h (Nat.le_refl _), hc2, g2, g3.keep (Agree.of_below hB2) fun _ _ hb => hb⟩ (some d)
      obtain ⟨own2, hst2⟩ := hst1.put (Below.refl _ _) (v := .und) (x := undef) rfl o2.dst
      have hfin := hQ own2 _ _ _ hk hst2
      have g1' : o1.guard = none := by simpa using c4
      have g2' : o2.guard = none := by simpa using c5
      unfold wpList
      rw [if_pos (by simp [Region.wanted, g1'])]
      left
      refine wp_val run1 ?_
      rw [h2]
      unfold wpList
      rw [if_pos (by simp [Region.wanted, g2'])]
      left
      unfold Oper.wp
      rw [run2]
      exact hfin
    · cases hk
  · cases hk
end
end Go.Proofs.Ytppgjmdncffecaa.Ev
