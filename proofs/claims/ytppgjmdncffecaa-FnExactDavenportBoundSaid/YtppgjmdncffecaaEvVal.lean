/-
  EvVal: operations that hand back a value.
-/
import Derived.Test.YtppgjmdncffecaaEvOps
namespace Go.Proofs.Ytppgjmdncffecaa.Ev
open Go Go.RowKit

section
variable {P : Program} {E : Env} {cl : Calling} {B : Nat} {w0 w : World} {own : Own} {σ : List AV} {a : Act} {R : Type}

theorem NV_of_GV {w' : World} {v : AV} {x : Value} (h : GV B own σ a.tmps w' v x) : NV B own σ a.tmps w w' v x := by
  cases v <;> first | exact h | exact h.elim

theorem ownOf_eq {s : Nat} {e : TypeId} {L : List Sc} (h : ownOf σ s = some (e, L)) : σ.getD s .u = .own e L := by
  unfold ownOf at h
  split at h
  · rename_i e' L' he
    simp only [Option.some.injEq, Prod.mk.injEq] at h
    rw [he, h.1, h.2]
  · cases h

theorem getD_lt {s : Nat} {e : TypeId} {L : List Sc} (h : σ.getD s .u = .own e L) : s < σ.length := by
  rcases Nat.lt_or_ge s σ.length with hl | hl
  · exact hl
  · simp [List.getD, List.getElem?_eq_none hl] at h

/-- An operand that is the alias of a row. -/
theorem eval_al (h : St B w0 own σ a w) {x : Operand} {s : Nat} (hx : evalO σ x = .al s) : ∃ e L, σ.getD s .u = .own e L ∧ a.tmps.getD s undef = a.eval x := by
  have := h.eval x
  rw [hx] at this
  exact this

theorem own_at (h : St B w0 own σ a w) {s : Nat} {e : TypeId} {L : List Sc} (hs : σ.getD s .u = .own e L) : w.ownsRow B e 1 (a.tmps.getD s undef) L.length (L.map Sc.val) ∧ own s = (a.tmps.getD s undef).ownBlock := by
  have := h.slot s (getD_lt hs)
  rw [hs] at this
  exact this

/-- What a slice's cells hold, for whoever reads it. -/
theorem list_of (h : St B w0 own σ a w) {x : Operand} {L : List Sc} (hx : listOf σ (evalO σ x) = some L) : ∃ A c, a.eval x = .slice A L.length c ∧ L.length ≤ c ∧ Rd w (fun _ => False) A L := by
  have hev := h.eval x
  cases hv : evalO σ x with
  | sl L' =>
    rw [hv] at hx hev
    simp only [listOf, Option.some.injEq] at hx
    subst hx
    obtain ⟨A, c, h1, h2, h3⟩ := hev
    exact ⟨A, c, h1, h2, h3.keep (Agree.refl _ w) fun _ _ hf => hf.elim⟩
  | fr e L' =>
    rw [hv] at hx hev
    simp only [listOf, Option.some.injEq] at hx
    subst hx
    obtain ⟨h1, h2⟩ := hev
    obtain ⟨A, c, h3⟩ := ownsRow_slice h1
    rw [h3] at h1
    obtain ⟨_, h4, h5⟩ := Rd_of_own (X := fun _ => False) h1 fun _ _ hf => hf
    exact ⟨A, c, h3, h4, h5⟩
  | al s =>
    rw [hv] at hx hev
    obtain ⟨e, L', h1, h2⟩ := hev
    simp only [listOf, ownOf, h1, Option.map_some, Option.some.injEq] at hx
    subst hx
    obtain ⟨h3, _⟩ := own_at h h1
    obtain ⟨A, c, h4⟩ := ownsRow_slice h3
    rw [h4] at h3
    obtain ⟨_, h5, h6⟩ := Rd_of_own (X := fun _ => False) h3 fun _ _ hf => hf
    exact ⟨A, c, h2.symm.trans h4, h5, h6⟩
  | _ => rw [hv] at hx; simp [listOf] at hx

theorem argOf_G (h : St B w0 own σ a w) (x : Operand) (ha : isArg (argOf σ (evalO σ x)) = true) : G 0 w (fun _ => False) (argOf σ (evalO σ x)) (a.eval x) := by
  have hev := h.eval x
  cases hv : evalO σ x with
  | al s =>
    rw [hv] at ha hev
    obtain ⟨e, L, h1, h2⟩ := hev
    have h3 : argOf σ (.al s) = .sl L := by simp only [argOf, ownOf, h1]
    rw [h3]
    exact list_of h (by rw [hv]; simp only [listOf, ownOf, h1, Option.map_some])
  | fr e L =>
    show G 0 w _ (.sl L) _
    exact list_of h (by rw [hv]; rfl)
  | sc y => rw [hv] at hev; exact hev
  | sl L =>
    show G 0 w _ (.sl L) _
    exact list_of h (by rw [hv]; rfl)
  | gr L =>
    rw [hv] at hev
    obtain ⟨A, c, h1, h2, h3⟩ := hev
    exact ⟨A, c, h1, h2, h3.keep (Agree.refl _ w) fun _ _ hf => hf.elim⟩
  | _ => rw [hv] at ha; simp [argOf, isArg] at ha

theorem G_weak {w' : World} {wsz : Nat} {own' : Own} {i : Nat} {r : AV} {x : Value} (hb : B ≤ wsz) (hX : ∀ b, wsz ≤ b → ¬ Xo own b) (hs : soft r = false ∨ ∀ b, ¬ Xo own b) (h : RV wsz w' own' i r x) : G B w' (Xo own) (weak r) x := by
  have hno : soft r = true → ∀ b, b < w'.heap.size → Xo own b → False := fun hr b _ hx => by
    rcases hs with hs | hs
    · rw [hr] at hs; cases hs
    · exact hs b hx
  cases r with
  | sc y => exact h
  | own e L => exact ⟨ownsRow_mono h.1 hb, fun b hb' => hX b (ownBlock_lt h.1 hb').1⟩
  | sl L =>
    obtain ⟨A, c, h1, h2, h3⟩ := h
    exact ⟨A, c, h1, h2, h3.keep (Agree.refl _ w') (hno rfl)⟩
  | gr L =>
    obtain ⟨A, c, h1, h2, h3⟩ := h
    refine ⟨A, c, h1, h2, h3.keep (Agree.refl _ w') fun b _ hx => ?_⟩
    rcases Nat.lt_or_ge b wsz with hl | hl
    · exact hl
    · exact absurd hx (hX b hl)
  | bp L =>
    obtain ⟨A, c, h1, h2, h3⟩ := h
    exact ⟨A, c, h1, h2, h3.keep (Agree.refl _ w') (hno rfl)⟩
  | _ => exact h.elim

theorem getElem0 {α : Type} (x : α) (l : List α) : (x :: l)[0]? = some x := rfl

/-- What a call hands back, packed as the call's value. -/
theorem NV_packed (h : St B w0 own σ a w) {w' : World} {rs : List AV} {xs : List Value} (hs : rs.any soft = false ∨ ∀ b, ¬ Xo own b) (hr : RetOk w.heap.size w' rs xs) : NV B own σ a.tmps w w' (packed rs) (packV xs) := by
  obtain ⟨hlen, own', _, hrv⟩ := hr
  have hX : ∀ b, w.heap.size ≤ b → ¬ Xo own b := fun b hb => notin h hb
  have hs' : ∀ r ∈ rs, soft r = false ∨ ∀ b, ¬ Xo own b := fun r hr => by
    rcases hs with hs | hs
    · rw [List.any_eq_false] at hs
      exact .inl (by simpa using hs r hr)
    · exact .inr hs
  match rs, xs, hlen with
  | [], _, _ => trivial
  | [r], [x], _ =>
    have := hrv 0 r x rfl rfl
    have hw := G_weak h.base hX (hs' r (by simp)) this
    cases r with
    | sc y => exact this
    | own e L => exact this.1
    | sl L => exact hw
    | gr L => exact hw
    | bp L => exact hw
    | _ => exact this.elim
  | [r1, r2], [x1, x2], _ =>
    exact ⟨x1, x2, rfl, G_weak h.base hX (hs' r1 (by simp)) (hrv 0 r1 x1 rfl rfl), G_weak h.base hX (hs' r2 (by simp)) (hrv 1 r2 x2 rfl rfl)⟩
  | [r1, r2, r3], [x1, x2, x3], _ =>
    exact ⟨x1, x2, x3, rfl, G_weak h.base hX (hs' r1 (by simp)) (hrv 0 r1 x1 rfl rfl), G_weak h.base hX (hs' r2 (by simp)) (hrv 1 r2 x2 rfl rfl), G_weak h.base hX (hs' r3 (by simp)) (hrv 2 r3 x3 rfl rfl)⟩
  | [r1, r2, r3, r4], [x1, x2, x3, x4], _ =>
    exact ⟨x1, x2, x3, x4, rfl, G_weak h.base hX (hs' r1 (by simp)) (hrv 0 r1 x1 rfl rfl), G_weak h.base hX (hs' r2 (by simp)) (hrv 1 r2 x2 rfl rfl), G_weak h.base hX (hs' r3 (by simp)) (hrv 2 r3 x3 rfl rfl), G_weak h.base hX (hs' r4 (by simp)) (hrv 3 r4 x4 rfl rfl)⟩
  | _ :: _ :: _ :: _ :: _ :: _, _, _ => trivial

theorem ad_cell {ad : Addr} {L : List Sc} {i : Int} (z : Sc) (h : ∀ j x, L[j]? = some x → w.cell? (ad.add j) = some x.val) (hi : inRange i L.length = true) : w.cell? (ad.add i.toNat) = some (L.getD i.toNat z).val := by
  simp only [inRange, Bool.and_eq_true, decide_eq_true_eq] at hi
  have hl : i.toNat < L.length := by omega
  exact h _ _ (by simp [List.getD, hl])

theorem run_indexAt_one {t e : TypeId} {i : TypeInfo} (h : P.underlying t = some (.slice e)) (hi : P.info? e = some i) (hs : i.size = 1) (ad : Addr) (n c : Nat) (k : IntKind) (j : Int) (hj : inRange j n = true) :
    (Instr.indexAt t (.slice (some ad) n c) (.int k j)).run P w = .ok (.pointer (some (ad.add j.toNat))) w := by
  simp only [inRange, Bool.and_eq_true, decide_eq_true_eq] at hj
  simp [Instr.indexAt, asIntOf, run_underlying h, hj, run_sizeOf hi, hs]

end
end Go.Proofs.Ytppgjmdncffecaa.Ev
