/-
  VReg: all operations together; a region in its own order.
-/
import Derived.Test.YtdocbpiocinllaaVCall
set_option linter.unusedVariables false
namespace Go.Proofs.Ytdocbpiocinllaa.Ev
open Go Go.RowKit

section
variable {P : Program} {E : Env} {cl : Calling} {H : Hints} {F : Fi} {Y : Nat → Prop} {w0 w w' : World} {m : Nat} {Mp : Mem} {M : Mem} {σ : List AV} {a : Act} {R : Type}

theorem stepOp_sound (hmF : F.m = m) (h : St Y w0 m Mp F.nv F.nc M σ a w) (hE : EnvOk P E) (hcl : CallOk P cl) {o : Oper} {d : Option Tmp} (hd : o.dst = d) {op : Op} (ho : o.op = op) {k : List AV → Option R} {r : R} (hk : stepOp E cl H F σ d op k = some r) : Turns P Y w0 m Mp F.nv F.nc a w o k r := by
  cases op with
  | assign x => exact step_assign h hd ho hk
  | store t p x => exact step_store h hE hd ho hk
  | alloc t => exact step_alloc hmF h hE hd ho hk
  | box t x => exact step_box hmF h hE hd ho hk
  | build t parts => exact step_build h hE hd ho hk
  | buildSlice t n parts => exact step_buildSlice h hE hcl hd ho hk
  | slice t x lo hi mx => exact step_slice h hE hd ho hk
  | call c =>
    cases hc : c.callee with
    | builtin b =>
      cases b with
      | append => exact step_append h hE hd ho hc hk
      | _ =>
        simp only [stepOp, hc, pureCall] at hk
        exact turns_of_givesF h hd (valOp_sound h hE hcl ho hk)
    | value x =>
      simp only [stepOp, hc] at hk
      split at hk
      · exact turns_of_givesF h hd (valOp_sound h hE hcl ho hk)
      · exact step_eff hmF h hE hcl hd ho hk
    | invoke x n =>
      simp only [stepOp, hc] at hk
      split at hk
      · exact turns_of_givesF h hd (valOp_sound h hE hcl ho hk)
      · exact step_eff hmF h hE hcl hd ho hk
  | _ => exact turns_of_gives h hd (valOp_sound (H := H) h hE hcl ho hk)

theorem set_self {d : Nat} {v : AV} (h : σ.getD d .u = v) (hv : v ≠ .u) : σ.set d v = σ := by
  have hd : d < σ.length := lt_of_getD h hv
  apply List.ext_getElem?
  intro i
  rw [List.getElem?_set]
  split
  · rename_i hi
    subst hi
    rw [← h]
    simp [List.getD, hd]
  · rfl

theorem slot_tmp (h : St Y w0 m Mp F.nv F.nc M σ a w) {d : Nat} {v : AV} (hx : σ.getD (F.nv + d) .u = v) (hv : v ≠ .u) : d < a.tmps.size ∧ GS M w σ (F.nv + d) v (a.tmps.getD d undef) := by
  have hl := lt_of_getD hx hv
  rw [h.len] at hl
  have hd : d < a.tmps.size := by exact Nat.lt_of_add_lt_add_left hl
  have := h.core.slot (F.nv + d)
  rw [hx, h.tmp d hd] at this
  exact ⟨hd, this⟩

/-- What a guard's slot says. -/
theorem yielded_sc (h : St Y w0 m Mp F.nv F.nc M σ a w) {all : Array Oper} {j d : Nat} {x : Bool} (hd : (all[j]?).bind (·.dst) = some d) (hx : σ.getD (F.nv + d) .u = .p (.sc (.b x))) : yielded all a.tmps j = some x := by
  obtain ⟨hl, hs⟩ := slot_tmp h hx (by simp)
  have hs : a.tmps.getD d undef = .bool x := hs
  have hg : a.tmps[d]? = some (.bool x) := by
    rw [Array.getElem?_eq_getElem hl, ← hs]
    simp [Array.getD, hl]
  simp [yielded, hd, hg]
theorem yielded_und (h : St Y w0 m Mp F.nv F.nc M σ a w) {all : Array Oper} {j d : Nat} (hd : (all[j]?).bind (·.dst) = some d) (hx : σ.getD (F.nv + d) .u = .und) : yielded all a.tmps j = none := by
  obtain ⟨hl, hs⟩ := slot_tmp h hx (by simp)
  have hs : a.tmps.getD d undef = undef := hs
  have hg : a.tmps[d]? = some undef := by
    rw [Array.getElem?_eq_getElem hl, ← hs]
    simp [Array.getD, hl]
  simp [yielded, hd, hg, undef]

theorem goOps_sound (hmF : F.m = m) (hE : EnvOk P E) (hcl : CallOk P cl) {all : Array Oper} {Q : Exit → Act → World → Prop} {k : List AV → Option R} {r : R}
    (hQ : ∀ M' σ' a' w', k σ' = some r → St Y w0 m Mp F.nv F.nc M' σ' a' w' → Q .normal a' w') :
    ∀ (l : List Oper) (i : Nat) {M : Mem} {σ : List AV} {a : Act} {w : World}, St Y w0 m Mp F.nv F.nc M σ a w → goOps E cl H F false all l i σ k = some r → wpList P all Q l a w
  | [], _, _, _, _, _, h, hk => hQ _ _ _ _ hk h
  | o :: rest, i, M, σ, a, w, h, hk => by
    have one : ∀ {σ' : List AV}, σ' = σ → oneOp E cl H F false false σ' o (fun σ' => goOps E cl H F false all rest (i + 1) σ' k) = some r → o.wp P a w (wpList P all Q rest) Q := by
      intro σ' he hone
      subst he
      have hone' : stepOp E cl H F σ' o.dst o.op (fun σ' => goOps E cl H F false all rest (i + 1) σ' k) = some r := hone
      exact stepOp_sound hmF h hE hcl rfl rfl hone' _ _ fun M' σ' a' w' hk' hst => goOps_sound hmF hE hcl hQ rest (i + 1) hst hk'
    have skip : ∀ {σ' : List AV}, σ' = σ → skipOp F false σ' o (fun σ' => goOps E cl H F false all rest (i + 1) σ' k) = some r → wpList P all Q rest (a.put o.dst undef) w := by
      intro σ' he hskip
      subst he
      obtain ⟨M', hst⟩ := h.und o.dst
      have hskip' : goOps E cl H F false all rest (i + 1) (put F.nv σ' o.dst .und) k = some r := by
        cases hdst : o.dst with
        | none => simpa only [skipOp, hdst] using hskip
        | some d => simpa only [skipOp, hdst] using hskip
      exact goOps_sound hmF hE hcl hQ rest (i + 1) hst hskip'
    unfold goOps guarded at hk
    simp only [Bool.false_and] at hk
    unfold wpList
    split at hk
    · rename_i hg
      rw [if_pos (by simp [Region.wanted, hg])]
      exact .inl (one rfl hk)
    · rename_i j want hg
      split at hk
      · rename_i d hd
        split at hk
        · rename_i x hx
          have hy := yielded_sc h hd hx
          rcases br_some hk with ⟨h1, h2⟩ | ⟨h1, h2⟩
          · have hxw : x = want := by simpa using h1
            subst hxw
            rw [if_pos (by simp [Region.wanted, hg, hy])]
            exact .inl (one (set_self hx (by simp)) h2)
          · have hxw : x = !want := by cases x <;> cases want <;> simp_all
            subst hxw
            rw [if_neg (by simp [Region.wanted, hg, hy])]
            exact skip (set_self hx (by simp)) h2
        · rename_i hx
          have hy := yielded_und h hd hx
          rw [if_neg (by simp [Region.wanted, hg, hy])]
          exact skip rfl hk
        · cases hk
      · cases hk
end
end Go.Proofs.Ytdocbpiocinllaa.Ev
