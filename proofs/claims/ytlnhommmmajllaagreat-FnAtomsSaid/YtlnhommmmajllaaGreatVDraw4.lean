/-
  VDraw4: a region whose order is open, each order looked at: behind each part of it that may be done, each operation that may come next.
-/
import Derived.Test.YtlnhommmmajllaaGreatVDraw3
set_option linter.unusedVariables false
namespace Go.Proofs.YtlnhommmmajllaaGreat.Ev
open Go Go.RowKit
section
variable {P : Program} {E : Env} {cl : Calling} {H : Hints} {F : Fi} {Y : Nat → Prop} {w0 w w' : World} {m : Nat} {Mp : Mem} {M : Mem} {σ : List AV} {a : Act} {R : Type}
theorem goL_bind {all : Array Oper} {D : Array Bool} {S : Type} (k : S → Option R) : ∀ (l : List Oper) (i : Nat) (σ : List AV) (f : List AV → Option S), (goL E cl H F all D l i σ f).bind k = goL E cl H F all D l i σ fun s => (f s).bind k
  | [], _, _, _ => rfl
  | o :: r, i, σ, f => by
    simp only [goL]
    split
    · rw [guarded_bind]
      congr 1
      funext s
      exact goL_bind k r (i + 1) s f
    · exact goL_bind k r (i + 1) σ f
theorem goL_some {all : Array Oper} {D : Array Bool} {l : List Oper} {i : Nat} {k : List AV → Option R} {r : R} (h : goL E cl H F all D l i σ k = some r) : ∃ σ1, goL E cl H F all D l i σ some = some σ1 ∧ k σ1 = some r := by
  have := goL_bind (E := E) (cl := cl) (H := H) (F := F) (all := all) (D := D) k l i σ some
  simp only [Option.bind_some] at this
  rw [← this] at h
  exact Option.bind_eq_some_iff.1 h
def DB (E : Env) (cl : Calling) (H : Hints) (F : Fi) (all : Array Oper) (K : List AV → Prop) : Nat → Array Bool → List AV → Prop
  | 0, listed, σ => Region.ready .any all listed = [] ∧ K σ
  | n + 1, listed, σ => (Region.ready .any all listed = [] → K σ) ∧ ∀ i ∈ Region.ready .any all listed, ∃ o σ1, all[i]? = some o ∧ act E cl H F all true o σ = some σ1 ∧ DB E cl H F all K n (listed.setIfInBounds i true) σ1
theorem DB_sound (hmF : F.m = m) (hE : EnvOk P E) (hcl : CallOk P cl) {all : Array Oper} {Q : Exit → Act → World → Prop} {K : List AV → Prop}
    (hQ : ∀ M' σ' a' w', K σ' → St Y w0 m Mp F.nv F.nc M' σ' a' w' → Q .normal a' w') :
    ∀ (fuel : Nat) (listed : Array Bool) {M : Mem} {σ : List AV} {a : Act} {w : World}, St Y w0 m Mp F.nv F.nc M σ a w → DB E cl H F all K fuel listed σ → wpAny P .any all Q fuel listed a w
  | 0, _, _, _, _, _, h, hd => ⟨hd.1, hQ _ _ _ _ hd.2 h⟩
  | fuel + 1, listed, M, σ, a, w, h, hd => by
    refine ⟨fun h0 => hQ _ _ _ _ (hd.1 h0) h, fun i hi => ?_⟩
    obtain ⟨o, σ1, ho, h2, h3⟩ := hd.2 i hi
    unfold wpOp
    split
    · rename_i hn; rw [ho] at hn; cases hn
    · rename_i o' ho'
      rw [ho] at ho'
      injection ho' with ho'
      subst ho'
      exact act_sound hmF h hE hcl h2 fun M' a' w' hst => DB_sound hmF hE hcl hQ fuel _ hst h3
theorem flat_inj {α β : Type} {g : α → List Nat} {f1 f2 : α → Nat → β} : ∀ {l : List α}, (l.flatMap fun D => (g D).map (f1 D)) = (l.flatMap fun D => (g D).map (f2 D)) → ∀ D ∈ l, ∀ i ∈ g D, f1 D i = f2 D i
  | [], _, D, hD, _, _ => by cases hD
  | D0 :: l, h, D, hD, i, hi => by
    simp only [List.flatMap_cons] at h
    obtain ⟨h1, h2⟩ := List.append_inj h (by simp)
    rcases List.mem_cons.1 hD with rfl | hD
    · exact List.map_inj_left.1 h1 i hi
    · exact flat_inj h2 D hD i hi
theorem recL_eq {β : Type} (f : Array Bool → Nat → β) (rd : Array Bool → List Nat) : ∀ Ds : List (Array Bool), recL f rd Ds = Ds.flatMap fun D => (rd D).map (f D)
  | [] => rfl
  | D :: Ds => by
    have inner : ∀ (l : List Nat) (r : List β), (List.rec (motive := fun _ => List β) r (fun i _ ih2 => f D i :: ih2) l : List β) = l.map (f D) ++ r := by
      intro l r
      induction l with
      | nil => rfl
      | cons i l ih => simp [ih]
    rw [List.flatMap_cons, ← recL_eq f rd Ds]
    exact inner (rd D) _
theorem recR_eq {β : Type} (f : Array Bool → Nat → β) (rd : Array Bool → List Nat) (Ds : List (Array Bool)) : recR f rd Ds = Ds.flatMap fun D => (rd D).map (f D) := recL_eq f rd Ds
def unl (D : Array Bool) : Nat := (D.toList.filter fun b => !b).length
theorem unl_set : ∀ (l : List Bool) (i : Nat), l.getD i true = false → ((l.set i true).filter fun b => !b).length + 1 = (l.filter fun b => !b).length
  | [], i, h => by simp at h
  | b :: l, 0, h => by
    have : b = false := by simpa using h
    subst this
    simp
  | b :: l, i + 1, h => by
    have := unl_set l i (by simpa using h)
    cases b <;> simp [this]
theorem memD_mem {Ds : List (Array Bool)} {D : Array Bool} (h : memD Ds D = true) : D ∈ Ds := by
  unfold memD at h
  obtain ⟨D', h1, h2⟩ := List.any_eq_true.1 h
  have : D' = D := Array.toList_inj.1 (by simpa using h2)
  exact this ▸ h1
theorem all_true : ∀ {l : List Bool}, l.all id = true → l = List.replicate l.length true
  | [], _ => rfl
  | b :: l, h => by
    simp only [List.all_cons, id, Bool.and_eq_true] at h
    rw [h.1, List.length_cons, List.replicate_succ, ← all_true h.2]
theorem orders_all {all : Array Oper} {Ds : List (Array Bool)} (hc : closedB all Ds = true) (he : edgeL E cl H F all Ds σ = edgeR E cl H F all Ds σ) {σf : List AV} (hf : goL E cl H F all (Array.replicate all.size true) all.toList 0 σ some = some σf) :
    DB E cl H F all (fun s => s = σf) all.size (Array.replicate all.size false) σ := by
  unfold closedB at hc
  simp only [Bool.and_eq_true, List.all_eq_true] at hc
  obtain ⟨hc0, hc⟩ := hc
  unfold edgeL edgeR at he
  rw [recL_eq, recR_eq] at he
  have edge := flat_inj he
  have full : ∀ D ∈ Ds, Region.ready .any all D = [] → D = Array.replicate all.size true := fun D hD hr => by
    obtain ⟨⟨h1, _⟩, h3⟩ := hc D hD
    rw [hr] at h3
    simp only [List.isEmpty_nil, Bool.not_true, Bool.false_or] at h3
    apply Array.toList_inj.1
    have hl : D.toList.length = all.size := by simpa using nbeq.1 h1
    rw [all_true h3, hl]
    simp
  have unr : ∀ D, ∀ i ∈ Region.ready .any all D, unl (D.setIfInBounds i true) + 1 = unl D := fun D i hi => by
    have := (mem_ready.1 hi).1
    unfold unl
    rw [Array.toList_setIfInBounds]
    refine unl_set _ _ ?_
    rw [← this]
    simp [Array.getD_eq_getD_getElem?, List.getD]
  have nxt : ∀ D ∈ Ds, ∀ i ∈ Region.ready .any all D, D.setIfInBounds i true ∈ Ds := fun D hD i hi => memD_mem ((hc D hD).1.2 i hi)
  have ed : ∀ D ∈ Ds, ∀ i ∈ Region.ready .any all D, (goL E cl H F all D all.toList 0 σ some).bind (actN E cl H F all i) = goL E cl H F all (D.setIfInBounds i true) all.toList 0 σ some := fun D hD i hi => by
    rw [goL_bind]
    exact edge D hD i hi
  have ex : ∀ (n : Nat) (D : Array Bool), D ∈ Ds → unl D = n → ∃ s, goL E cl H F all D all.toList 0 σ some = some s := by
    intro n
    induction n with
    | zero =>
      intro D hD hn
      have : Region.ready .any all D = [] := by
        cases hr : Region.ready .any all D with
        | nil => rfl
        | cons i r => have := unr D i (by rw [hr]; exact List.mem_cons_self); omega
      rw [full D hD this]
      exact ⟨σf, hf⟩
    | succ n ih =>
      intro D hD hn
      cases hr : Region.ready .any all D with
      | nil => rw [full D hD hr]; exact ⟨σf, hf⟩
      | cons i r =>
        have hi : i ∈ Region.ready .any all D := by rw [hr]; exact List.mem_cons_self
        obtain ⟨s, hs⟩ := ih _ (nxt D hD i hi) (by have := unr D i hi; omega)
        have := ed D hD i hi
        rw [hs] at this
        obtain ⟨s', h1, _⟩ := Option.bind_eq_some_iff.1 this
        exact ⟨s', h1⟩
  have key : ∀ (n : Nat) (D : Array Bool) (s : List AV), D ∈ Ds → unl D = n → goL E cl H F all D all.toList 0 σ some = some s → DB E cl H F all (fun s => s = σf) n D s := by
    intro n
    induction n with
    | zero =>
      intro D s hD hn hs
      have hr : Region.ready .any all D = [] := by
        cases hr : Region.ready .any all D with
        | nil => rfl
        | cons i r => have := unr D i (by rw [hr]; exact List.mem_cons_self); omega
      refine ⟨hr, ?_⟩
      rw [full D hD hr, hf] at hs
      exact (Option.some.inj hs).symm
    | succ n ih =>
      intro D s hD hn hs
      refine ⟨fun hr => ?_, fun i hi => ?_⟩
      · rw [full D hD hr, hf] at hs
        exact (Option.some.inj hs).symm
      · have hu := unr D i hi
        obtain ⟨s1, h1⟩ := ex _ _ (nxt D hD i hi) rfl
        have := ed D hD i hi
        rw [hs, h1] at this
        have this : actN E cl H F all i s = some s1 := this
        unfold actN at this
        split at this
        · rename_i o ho
          exact ⟨o, s1, ho, this, ih _ s1 (nxt D hD i hi) (by omega) h1⟩
        · cases this
  obtain ⟨s0, h0⟩ := ex _ _ (memD_mem hc0) rfl
  have e0 : goL E cl H F all (Array.replicate all.size false) all.toList 0 σ some = some σ := by
    have : ∀ (l : List Oper) (i : Nat), goL E cl H F all (Array.replicate all.size false) l i σ some = some σ := by
      intro l
      induction l with
      | nil => intro i; rfl
      | cons o l ih =>
        intro i
        simp only [goL]
        have : (Array.replicate all.size false).getD i false = false := getD_replicate_false _ _
        rw [this]
        exact ih (i + 1)
    exact this _ 0
  have hu : unl (Array.replicate all.size false) = all.size := by simp [unl]
  exact key all.size _ σ (memD_mem hc0) hu e0
theorem region_all (hmF : F.m = m) (hE : EnvOk P E) (hcl : CallOk P cl) (h : St Y w0 m Mp F.nv F.nc M σ a w) {id : Nat} {all : Array Oper} {Q : Exit → Act → World → Prop} {Ds : List (Array Bool)} (hc : closedB all Ds = true) (he : edgeL E cl H F all Ds σ = edgeR E cl H F all Ds σ) {σf : List AV} (hf : goL E cl H F all (Array.replicate all.size true) all.toList 0 σ some = some σf)
    (hQ : ∀ M' a' w', St Y w0 m Mp F.nv F.nc M' σf a' w' → Q .normal a' w') : (Code.region id all true).wp P Q a w := by
  obtain ⟨M1, h1⟩ := h.drew
  refine wp_region_any hE.wide (DB_sound (H := H) (K := fun s => s = σf) hmF hE hcl (fun M' σ' a' w' hk hst => hQ M' a' w' (hk ▸ hst)) _ _ h1 ?_)
  exact orders_all hc he hf
end
end Go.Proofs.YtlnhommmmajllaaGreat.Ev
