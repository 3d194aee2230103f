/-
  VDraw3: a region whose order is open.
-/
import Derived.Test.YtlnhommmmajllaaGreatVDraw2
set_option linter.unusedVariables false
namespace Go.Proofs.YtlnhommmmajllaaGreat.Ev
open Go Go.RowKit
section
variable {P : Program} {E : Env} {cl : Calling} {H : Hints} {F : Fi} {Y : Nat → Prop} {w0 w w' : World} {m : Nat} {Mp : Mem} {M : Mem} {σ : List AV} {a : Act} {R : Type}
def aop (E : Env) (cl : Calling) (H : Hints) (F : Fi) (all : Array Oper) (i : Nat) (K : List AV → Prop) (σ : List AV) : Prop :=
  match all[i]? with
  | none => K σ
  | some o => ∃ σ1, act E cl H F all (soloAt all i) o σ = some σ1 ∧ K σ1
def DA (E : Env) (cl : Calling) (H : Hints) (F : Fi) (all : Array Oper) (K : List AV → Prop) : Nat → Array Bool → List AV → Prop
  | 0, listed, σ => Region.ready .any all listed = [] ∧ K σ
  | n + 1, listed, σ => (Region.ready .any all listed = [] → K σ) ∧ ∀ i ∈ Region.ready .any all listed, aop E cl H F all i (DA E cl H F all K n (listed.setIfInBounds i true)) σ
structure Cls (all : Array Oper) (listed : Array Bool) : Prop where
  size : listed.size = all.size
  cls : ∀ j oj, all[j]? = some oj → listed.getD j false = true → ∀ e ∈ oj.after, Region.binds .any e = true → listed.getD e.on false = true
theorem Cls.set {all : Array Oper} {listed : Array Bool} (h : Cls all listed) {i : Nat} (hi : i ∈ Region.ready .any all listed) : Cls all (listed.setIfInBounds i true) := by
  obtain ⟨_, oi, hoi, hall⟩ := mem_ready.1 hi
  refine ⟨by simp [h.size], fun j oj hj hl e he hb => ?_⟩
  by_cases hij : i = j
  · subst hij
    have : oj = oi := Option.some.inj (hj.symm.trans hoi)
    subst this
    exact getD_set_true (hall e he hb)
  · rw [getD_set_ne false hij] at hl
    exact getD_set_true (h.cls j oj hj hl e he hb)
theorem behind_listed {all : Array Oper} {listed : Array Bool} (h : Cls all listed) {i : Nat} : ∀ (n j : Nat), listed.getD j false = true → behind all n j i = true → listed.getD i false = true
  | 0, _, _, hb => by simp [behind] at hb
  | n + 1, j, hj, hb => by
    simp only [behind] at hb
    split at hb
    · rename_i o ho
      obtain ⟨e, he, hb⟩ := List.any_eq_true.1 hb
      simp only [Bool.and_eq_true, Bool.or_eq_true] at hb
      have hl := h.cls j o ho hj e (by simpa using he) hb.1
      rcases hb.2 with hb | hb
      · rw [nbeq.1 hb] at hl; exact hl
      · exact behind_listed h n e.on hl hb
    · cases hb
theorem ready_behind {all : Array Oper} {listed : Array Bool} (h : Cls all listed) {i j n : Nat} (hj : j ∈ Region.ready .any all listed) (hi : i ∈ Region.ready .any all listed) : behind all n j i = false := by
  cases hb : behind all n j i with
  | false => rfl
  | true =>
    exfalso
    obtain ⟨_, oj, hoj, hall⟩ := mem_ready.1 hj
    have hun := (mem_ready.1 hi).1
    have hun' : listed.getD i false = false := getD_both hun
    cases n with
    | zero => simp [behind] at hb
    | succ n =>
      simp only [behind, hoj] at hb
      obtain ⟨e, he, hb⟩ := List.any_eq_true.1 hb
      simp only [Bool.and_eq_true, Bool.or_eq_true] at hb
      have hl := hall e (by simpa using he) hb.1
      rcases hb.2 with hb | hb
      · rw [nbeq.1 hb, hun'] at hl; cases hl
      · rw [behind_listed h n e.on hl hb] at hun'; cases hun'
theorem not_solo {all : Array Oper} {listed : Array Bool} (h : Cls all listed) {i j : Nat} (hj : j ∈ Region.ready .any all listed) (hi : i ∈ Region.ready .any all listed) (hij : j ≠ i) : soloAt all i = false := by
  cases hs : soloAt all i with
  | false => rfl
  | true =>
    exfalso
    unfold soloAt at hs
    rw [List.all_eq_true] at hs
    obtain ⟨_, oj, hoj, _⟩ := mem_ready.1 hj
    have := hs j (List.mem_range.2 (Array.getElem?_eq_some_iff.1 hoj).1)
    simp only [Bool.or_eq_true] at this
    rcases this with h1 | h1 | h1
    · exact hij (nbeq.1 h1).symm
    · rw [ready_behind h hi hj] at h1; cases h1
    · rw [ready_behind h hj hi] at h1; cases h1
theorem freeV_spec {all : Array Oper} {listed : Array Bool} {i : Nat} {oi : Oper} (hi : all[i]? = some oi) (h : freeV H F all listed i = true) {j : Nat} {oj : Oper} (hj : all[j]? = some oj) (hne : j ≠ i) (hun : listed.getD j true = false) (hb : behind all all.size j i = false) : cmt H F all oi oj = true := by
  simp only [freeV, hi, List.all_eq_true, List.mem_range] at h
  have h1 := h j (Array.getElem?_eq_some_iff.1 hj).1
  simp only [hj, hun, hb, Bool.false_or, Bool.or_eq_true] at h1
  rcases h1 with h1 | h1
  · exact absurd (nbeq.1 h1) hne
  · exact h1
theorem DA_first {all : Array Oper} {K : List AV → Prop} {i : Nat} {oi : Oper} (hi : all[i]? = some oi) : ∀ (fuel : Nat) (listed : Array Bool) (σ σ1 : List AV), Cls all listed →
    (∀ j oj, all[j]? = some oj → j ≠ i → listed.getD j true = false → behind all all.size j i = false → cmt H F all oi oj = true) →
    i ∈ Region.ready .any all listed → act E cl H F all (soloAt all i) oi σ = some σ1 → DA E cl H F all K fuel (listed.setIfInBounds i true) σ1 → DA E cl H F all K (fuel + 1) listed σ := by
  have self : ∀ {σ σ1 : List AV} {L : List AV → Prop}, act E cl H F all (soloAt all i) oi σ = some σ1 → L σ1 → aop E cl H F all i L σ := fun {σ σ1 L} h1 h2 => by
    unfold aop
    simp only [hi]
    exact ⟨σ1, h1, h2⟩
  intro fuel
  induction fuel with
  | zero =>
    intro listed σ σ1 hcl _ hr hy hH
    refine ⟨fun h => (by rw [h] at hr; cases hr), fun j hj => ?_⟩
    by_cases hji : j = i
    · subst hji; exact self hy hH
    · have := ready_mono hj hji
      rw [hH.1] at this
      cases this
  | succ fuel ih =>
    intro listed σ σ1 hcl hfree hr hy hH
    refine ⟨fun h => (by rw [h] at hr; cases hr), fun j hj => ?_⟩
    by_cases hji : j = i
    · subst hji; exact self hy hH
    · have h1 := hH.2 j (ready_mono hj hji)
      obtain ⟨hjun, oj, hoj, hall⟩ := mem_ready.1 hj
      have hb := ready_behind hcl (n := all.size) hj hr
      have hc := hfree j oj hoj hji hjun hb
      have hsi := not_solo hcl hj hr hji
      have hsj := not_solo hcl hr hj (Ne.symm hji)
      unfold aop at h1
      simp only [hoj] at h1
      obtain ⟨σ2, h2, h3⟩ := h1
      rw [hsi] at hy
      rw [hsj] at h2
      have hcc : ∃ σ1', act E cl H F all (soloAt all j) oj σ = some σ1' ∧ act E cl H F all (soloAt all i) oi σ1' = some σ2 := by
        unfold cmt at hc
        simp only [Bool.and_eq_true, Bool.or_eq_true] at hc
        rcases hc.2 with hc2 | hc2
        · exact act_comm hc2 hc.1 hy h2 _ _
        · rcases hc2 with hc2 | hc2
          · exact sto_comm hc2.1 hc2.2 hc.1 hy h2 _ _
          · exact look_comm hc2.1 hc2.2 hc.1 hy h2 _ _
      obtain ⟨σ1', g1, g2⟩ := hcc
      unfold aop
      simp only [hoj]
      refine ⟨σ1', g1, ih (listed.setIfInBounds j true) σ1' σ2 (hcl.set hj) (fun k ok hk hki hun hbk => ?_) (ready_mono hr (Ne.symm hji)) g2 ?_⟩
      · refine hfree k ok hk hki ?_ hbk
        by_cases hjk : j = k
        · subst hjk; exact hjun
        · rw [getD_set_ne true hjk] at hun; exact hun
      · rw [Array.setIfInBounds_comm _ _ hji]
        exact h3
theorem DA_lex {all : Array Oper} {k : List AV → Option R} {r : R} : ∀ (l : List Oper) (i : Nat) (listed : Array Bool) (σ : List AV), (∀ j, l[j]? = all[i + j]?) → Cls all listed →
    lexV H F all l.length i listed = true → goOps E cl H F true all l i σ k = some r → DA E cl H F all (fun σ => k σ = some r) l.length listed σ
  | [], i, listed, σ, _, _, hB, h => ⟨by simpa [lexV] using hB, h⟩
  | o :: l, i, listed, σ, hl, hcl, hB, h => by
    have h0 : all[i]? = some o := by simpa using (hl 0).symm
    simp only [List.length_cons, lexV, Bool.and_eq_true] at hB
    obtain ⟨hr, hf, hB'⟩ := hB
    have hr' : i ∈ Region.ready .any all listed := by simpa using hr
    unfold goOps at h
    simp only [Bool.true_and] at h
    obtain ⟨σ1, h1, h2⟩ := guarded_some h
    exact DA_first h0 l.length listed σ σ1 hcl (fun j oj hj hne hun hb => freeV_spec h0 hf hj hne hun hb) hr' h1
      (DA_lex l (i + 1) _ _ (fun j => by have := hl (j + 1); simpa [Nat.add_assoc, Nat.add_comm 1 j] using this) (hcl.set hr') hB' h2)
theorem DA_ord {all : Array Oper} {k : List AV → Option R} {r : R} : ∀ (l : List Nat) (listed : Array Bool) (σ : List AV), Cls all listed →
    lexO H F all l listed = true → goO E cl H F all l σ k = some r → DA E cl H F all (fun σ => k σ = some r) l.length listed σ
  | [], listed, σ, _, hB, h => ⟨by simpa [lexO] using hB, h⟩
  | i :: l, listed, σ, hcl, hB, h => by
    simp only [lexO, Bool.and_eq_true] at hB
    obtain ⟨hr, hf, hB'⟩ := hB
    have hr' : i ∈ Region.ready .any all listed := by simpa using hr
    simp only [goO] at h
    split at h
    · rename_i o h0
      obtain ⟨σ1, h1, h2⟩ := guarded_some h
      exact DA_first h0 l.length listed σ σ1 hcl (fun j oj hj hne hun hb => freeV_spec h0 hf hj hne hun hb) hr' h1
        (DA_ord l _ _ (hcl.set hr') hB' h2)
    · cases h
theorem want_sound (h : St Y w0 m Mp F.nv F.nc M σ a w) {all : Array Oper} {o : Oper} {b : Bool} (hw : wantA F all σ o = some b) : Region.wanted o (yielded all a.tmps) = b := by
  unfold wantA at hw
  unfold Region.wanted
  split at hw
  · rename_i hg
    simp only [Option.some.injEq] at hw
    simp [hg, ← hw]
  · rename_i j want hg
    split at hw
    · rename_i d hd
      split at hw
      · rename_i x hx
        simp only [Option.some.injEq] at hw
        simp only [hg, yielded_sc h hd hx, ← hw]
        cases x <;> cases want <;> rfl
      · rename_i hx
        simp only [Option.some.injEq] at hw
        simp only [hg, yielded_und h hd hx, ← hw]
        cases want <;> rfl
      · cases hw
    · cases hw
theorem setA_plain {d : Nat} {v : AV} (ha : apartA σ d = true) (hv : nrA d v = true) : setA σ d v = σ.set d v := by
  unfold apartA at ha
  simp only [Bool.and_eq_true, Bool.not_eq_true'] at ha
  unfold setA
  rw [killV_plain (anyV_refable ha.1), dropV_eq (nrA_iff.1 hv).1]
theorem stepD_sound (hmF : F.m = m) (h : St Y w0 m Mp F.nv F.nc M σ a w) (hE : EnvOk P E) (hcl : CallOk P cl) {solo : Bool} {o : Oper} {k : List AV → Option R} {r : R} (hk : stepD E cl H F solo σ o.dst o.op k = some r) : Turns P Y w0 m Mp F.nv F.nc a w o k r := by
  unfold stepD at hk
  split at hk
  · rename_i d hkv hd
    split at hk
    · rename_i ha
      intro next Q hn
      refine valOp_sound h hE hcl rfl hk next Q fun v x w' hk' hb hv => ?_
      split at hk'
      · rename_i hnr
        obtain ⟨M', hst⟩ := h.setNew hb hv d
        rw [setA_plain ha hnr] at hst
        rw [hd]
        exact hn M' _ _ _ hk' hst
      · cases hk'
    · cases hk
  · split at hk
    · exact stepOp_sound hmF h hE hcl rfl rfl hk
    · cases hk
theorem act_sound (hmF : F.m = m) (h : St Y w0 m Mp F.nv F.nc M σ a w) (hE : EnvOk P E) (hcl : CallOk P cl) {all : Array Oper} {solo : Bool} {o : Oper} {σ1 : List AV} (hk : act E cl H F all solo o σ = some σ1) {next : Act → World → Prop} {Q : Exit → Act → World → Prop}
    (hn : ∀ M' a' w', St Y w0 m Mp F.nv F.nc M' σ1 a' w' → next a' w') : if Region.wanted o (yielded all a.tmps) then o.wp P a w next Q ∨ (o.asks P a w ∧ LetsOut Q) else next (a.put o.dst undef) w := by
  rw [act_want] at hk
  split at hk
  · rename_i hw
    rw [if_pos (want_sound h hw)]
    refine .inl (stepD_sound hmF h hE hcl (k := some) hk next Q fun M' σ' a' w' he hst => ?_)
    injection he with he
    subst he
    exact hn M' a' w' hst
  · rename_i hw
    rw [if_neg (by rw [want_sound h hw]; simp)]
    cases hd : o.dst with
    | none =>
      simp only [skipOp, hd, Ev.put, Option.some.injEq] at hk
      subst hk
      exact hn M _ w h
    | some d =>
      simp only [skipOp, hd] at hk
      split at hk
      · rename_i ha
        injection hk with hk
        subst hk
        obtain ⟨M', hst⟩ := h.und (some d)
        have hst : St Y w0 m Mp F.nv F.nc M' (setA σ (F.nv + d) .und) (a.put (some d) undef) w := hst
        rw [setA_plain ha rfl] at hst
        exact hn M' _ w hst
      · cases hk
  · cases hk
theorem DA_sound (hmF : F.m = m) (hE : EnvOk P E) (hcl : CallOk P cl) {all : Array Oper} {Q : Exit → Act → World → Prop} {K : List AV → Prop}
    (hQ : ∀ M' σ' a' w', K σ' → St Y w0 m Mp F.nv F.nc M' σ' a' w' → Q .normal a' w') :
    ∀ (fuel : Nat) (listed : Array Bool) {M : Mem} {σ : List AV} {a : Act} {w : World}, St Y w0 m Mp F.nv F.nc M σ a w → DA E cl H F all K fuel listed σ → wpAny P .any all Q fuel listed a w
  | 0, _, _, _, _, _, h, hd => ⟨hd.1, hQ _ _ _ _ hd.2 h⟩
  | fuel + 1, listed, M, σ, a, w, h, hd => by
    refine ⟨fun h0 => hQ _ _ _ _ (hd.1 h0) h, fun i hi => ?_⟩
    have h1 := hd.2 i hi
    unfold aop at h1
    unfold wpOp
    split
    · rename_i hn
      simp only [hn] at h1
      exact DA_sound hmF hE hcl hQ fuel _ h h1
    · rename_i o ho
      simp only [ho] at h1
      obtain ⟨σ1, h2, h3⟩ := h1
      exact act_sound hmF h hE hcl h2 fun M' a' w' hst => DA_sound hmF hE hcl hQ fuel _ hst h3
theorem draw_sound (hmF : F.m = m) (hE : EnvOk P E) (hcl : CallOk P cl) (h : St Y w0 m Mp F.nv F.nc M σ a w) {id : Nat} {all : Array Oper} {Q : Exit → Act → World → Prop} {k : List AV → Option R} {r : R} (hok : okD H F all = true) (hk : goOps E cl H F true all all.toList 0 σ k = some r)
    (hQ : ∀ M' σ' a' w', k σ' = some r → St Y w0 m Mp F.nv F.nc M' σ' a' w' → Q .normal a' w') : (Code.region id all true).wp P Q a w := by
  obtain ⟨M1, h1⟩ := h.drew
  refine wp_region_any hE.wide (DA_sound (H := H) (K := fun σ => k σ = some r) hmF hE hcl hQ _ _ h1 ?_)
  have := DA_lex (E := E) (cl := cl) (H := H) (F := F) (k := k) (r := r) all.toList 0 (Array.replicate all.size false) σ (by simp) ⟨by simp, fun j oj _ hl => (by rw [getD_replicate_false] at hl; cases hl)⟩ (by simpa [okD] using hok) hk
  simpa using this
theorem draw_sound_ord (hmF : F.m = m) (hE : EnvOk P E) (hcl : CallOk P cl) (h : St Y w0 m Mp F.nv F.nc M σ a w) {id : Nat} {all : Array Oper} {l : List Nat} {Q : Exit → Act → World → Prop} {k : List AV → Option R} {r : R} (hok : okO H F all l = true) (hk : goO E cl H F all l σ k = some r)
    (hQ : ∀ M' σ' a' w', k σ' = some r → St Y w0 m Mp F.nv F.nc M' σ' a' w' → Q .normal a' w') : (Code.region id all true).wp P Q a w := by
  obtain ⟨M1, h1⟩ := h.drew
  unfold okO at hok
  simp only [Bool.and_eq_true] at hok
  have hl : l.length = all.size := nbeq.1 hok.1
  refine wp_region_any hE.wide (DA_sound (H := H) (K := fun σ => k σ = some r) hmF hE hcl hQ _ _ h1 ?_)
  have := DA_ord (E := E) (cl := cl) (H := H) (F := F) (k := k) (r := r) l (Array.replicate all.size false) σ ⟨by simp, fun j oj _ hl => (by rw [getD_replicate_false] at hl; cases hl)⟩ hok.2 hk
  rw [hl] at this
  simpa using this
end
end Go.Proofs.YtlnhommmmajllaaGreat.Ev
