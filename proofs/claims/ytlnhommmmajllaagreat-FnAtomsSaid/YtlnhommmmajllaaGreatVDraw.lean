/-
  VDraw: a region whose order is open: every order comes to what the text's own order comes to.
-/
import Derived.Test.YtlnhommmmajllaaGreatVReg
import Derived.Still
set_option linter.unusedVariables false
namespace Go.Proofs.YtlnhommmmajllaaGreat.Ev
open Go Go.RowKit
section
variable {P : Program} {E : Env} {cl : Calling} {H : Hints} {F : Fi} {Y : Nat → Prop} {w0 w w' : World} {m : Nat} {Mp : Mem} {nv : Nat} {M : Mem} {σ : List AV} {a : Act} {R : Type}
theorem br_bind {α β : Type} (t : Bool) (x y : Option α) (k : α → Option β) : (br t x y).bind k = br t (x.bind k) (y.bind k) := by cases t <;> rfl
theorem scBin_bind (op : BinOp) (x y : Sc) {S : Type} (f : Sc → Option S) (k : S → Option R) : (scBin op x y f).bind k = scBin op x y fun z => (f z).bind k := by
  cases x <;> cases y <;> cases op <;> simp only [scBin] <;> first
    | rfl
    | exact br_bind ..
    | (split
       · first | rfl | exact br_bind ..
       · rfl)
theorem convS_bind (s d : TypeId) (o : Option (List Sc)) {S : Type} (f : AV → Option S) (k : S → Option R) : (convS E s d o f).bind k = convS E s d o fun v => (f v).bind k := by
  unfold convS
  split
  · split
    · exact br_bind ..
    · rfl
  · rfl
theorem valOp_bind (op : Op) {S : Type} (f : AV → Option S) (k : S → Option R) : (valOp E cl H nv σ op f).bind k = valOp E cl H nv σ op fun v => (f v).bind k := by
  cases op with
  | binOp op t x y t' =>
    simp only [valOp]
    split
    · split
      · exact scBin_bind ..
      · rfl
    · rfl
  | makeFunc fn first cap =>
    cases fn with
    | func f => simp only [valOp]; split <;> rfl
    | _ => rfl
  | convert s d x =>
    simp only [valOp]
    split
    · rfl
    · exact convS_bind ..
    · rfl
  | slice t x lo hi mx =>
    cases mx with
    | none => simp only [valOp] <;> (repeat' split) <;> first | rfl | exact br_bind .. | (rw [br_bind]; rfl)
    | some mx => rfl
  | _ => simp only [valOp] <;> (repeat' split) <;> first | rfl | exact br_bind .. | (rw [br_bind]; rfl)
theorem newBack_bind (soft : Bool) (d : Tmp) (g : Bool) (out : List AV) {S : Type} (f : List AV → Option S) (k : S → Option R) : (newBack F σ soft d g out f).bind k = newBack F σ soft d g out fun v => (f v).bind k := by
  unfold newBack
  (repeat' split) <;> first | rfl | exact br_bind .. | simp [br_bind]
theorem effCall_bind (d : Option Tmp) (c : Call) {S : Type} (f : List AV → Option S) (k : S → Option R) : (effCall cl H F σ d c f).bind k = effCall cl H F σ d c fun v => (f v).bind k := by
  unfold effCall
  simp only []
  (repeat' split) <;> first | rfl | exact br_bind .. | exact newBack_bind .. | simp [br_bind]
theorem appDeep_bind (d : Tmp) (e0 : TypeId) (s : Nat) (y : AV) {S : Type} (f : List AV → Option S) (k : S → Option R) : (appDeep nv σ d e0 s y f).bind k = appDeep nv σ d e0 s y fun v => (f v).bind k := by
  unfold appDeep
  (repeat' split) <;> first | rfl | exact br_bind .. | simp [br_bind]
theorem buildDeep_bind (d : Tmp) (t : TypeId) (n : Nat) (ps : List (Nat × Operand)) {S : Type} (f : List AV → Option S) (k : S → Option R) : (buildDeep E nv σ d t n ps f).bind k = buildDeep E nv σ d t n ps fun v => (f v).bind k := by
  unfold buildDeep
  (repeat' split) <;> rfl
theorem stepOp_bind (d : Option Tmp) (op : Op) {S : Type} (f : List AV → Option S) (k : S → Option R) : (stepOp E cl H F σ d op f).bind k = stepOp E cl H F σ d op fun v => (f v).bind k := by
  cases op with
  | buildSlice t n parts =>
    simp only [stepOp]
    split
    · exact buildDeep_bind ..
    · exact valOp_bind ..
  | call c =>
    simp only [stepOp]
    split
    · (repeat' split) <;> first | rfl | exact br_bind .. | exact appDeep_bind .. | simp [br_bind]
    · split
      · exact valOp_bind ..
      · exact effCall_bind ..
  | slice t x lo hi mx =>
    cases mx with
    | none => simp only [stepOp] <;> (repeat' split) <;> first | rfl | exact br_bind .. | simp [br_bind]
    | some mx => simp only [stepOp]; exact valOp_bind ..
  | assign x => simp only [stepOp] <;> (repeat' split) <;> first | rfl | exact br_bind .. | simp [br_bind]
  | store t x y => simp only [stepOp] <;> (repeat' split) <;> first | rfl | exact br_bind .. | simp [br_bind]
  | alloc t => simp only [stepOp] <;> (repeat' split) <;> first | rfl | exact br_bind .. | simp [br_bind]
  | box t x => simp only [stepOp] <;> (repeat' split) <;> first | rfl | exact br_bind .. | simp [br_bind]
  | build t ps => simp only [stepOp] <;> (repeat' split) <;> first | rfl | exact br_bind .. | simp [br_bind]
  | _ => simp only [stepOp]; exact valOp_bind ..
theorem stepD_bind (s : Bool) (d : Option Tmp) (op : Op) {S : Type} (f : List AV → Option S) (k : S → Option R) : (stepD E cl H F s σ d op f).bind k = stepD E cl H F s σ d op fun v => (f v).bind k := by
  unfold stepD
  split
  · split
    · rw [valOp_bind]
      congr 1
      funext v
      split <;> rfl
    · rfl
  · split
    · exact stepOp_bind ..
    · rfl
theorem oneOp_bind (draw solo : Bool) (o : Oper) {S : Type} (f : List AV → Option S) (k : S → Option R) : (oneOp E cl H F draw solo σ o f).bind k = oneOp E cl H F draw solo σ o fun v => (f v).bind k := by
  cases draw
  · exact stepOp_bind ..
  · exact stepD_bind ..
theorem skipOp_bind (draw : Bool) (o : Oper) {S : Type} (f : List AV → Option S) (k : S → Option R) : (skipOp F draw σ o f).bind k = skipOp F draw σ o fun v => (f v).bind k := by
  unfold skipOp
  split
  · split <;> rfl
  · rfl
theorem guarded_bind (draw : Bool) (all : Array Oper) (solo : Bool) (o : Oper) {S : Type} (f : List AV → Option S) (k : S → Option R) : (guarded E cl H F draw all solo σ o f).bind k = guarded E cl H F draw all solo σ o fun v => (f v).bind k := by
  unfold guarded
  split
  · exact oneOp_bind ..
  · split
    · split
      · rw [br_bind, oneOp_bind, skipOp_bind]
      · exact skipOp_bind ..
      · rfl
    · rfl
abbrev act (E : Env) (cl : Calling) (H : Hints) (F : Fi) (all : Array Oper) (solo : Bool) (o : Oper) (σ : List AV) : Option (List AV) := guarded E cl H F true all solo σ o some
theorem guarded_some {all : Array Oper} {solo : Bool} {o : Oper} {k : List AV → Option R} {r : R} (h : guarded E cl H F true all solo σ o k = some r) : ∃ σ1, act E cl H F all solo o σ = some σ1 ∧ k σ1 = some r := by
  have := guarded_bind (E := E) (cl := cl) (H := H) (F := F) (σ := σ) true all solo o (f := some) k
  simp only [Option.bind_some] at this
  rw [← this] at h
  exact Option.bind_eq_some_iff.1 h
theorem nrA_iff {d : Nat} {v : AV} : nrA d v = true ↔ hasVA d v = false ∧ hasPA d v = false := by
  unfold nrA
  cases hasVA d v <;> cases hasPA d v <;> simp
theorem noRef_iff {d : Nat} : noRef σ d = true ↔ ∀ t, nrA d (σ.getD t .u) = true := by
  unfold noRef
  rw [List.all_eq_true]
  constructor
  · intro h t
    by_cases ht : t < σ.length
    · exact h _ (by simp [List.getD, ht])
    · rw [getD_ge (Nat.le_of_not_lt ht)]; rfl
  · intro h v hv
    obtain ⟨t, ht⟩ := List.getElem?_of_mem hv
    have := h t
    simpa [List.getD, ht] using this
theorem anyV_nr {v : AV} (h : anyV v = false) (d : Nat) : nrA d v = true := by
  cases v with
  | p y => cases y <;> simp_all [anyV, nrA, hasVA, hasPA, hasV, hasP]
  | _ => simp_all [anyV, nrA, hasVA, hasPA]
variable {W : Nat → Prop} {σ' : List AV}
structure Agr (W : Nat → Prop) (σ σ' : List AV) : Prop where
  len : σ'.length = σ.length
  eq : ∀ t, ¬ W t → σ'.getD t .u = σ.getD t .u
  nr : ∀ t, ¬ W t → ∀ d, W d → nrA d (σ.getD t .u) = true
theorem Agr.evalO (h : Agr W σ σ') {x : Operand} (hx : ∀ t, x = .tmp t → ¬ W (nv + t)) : Ev.evalO nv σ' x = Ev.evalO nv σ x := by
  cases x with
  | tmp t => simp only [Ev.evalO]; rw [h.eq _ (hx t rfl)]
  | _ => rfl
theorem Agr.evalNr (h : Agr W σ σ') {x : Operand} (hx : ∀ t, x = .tmp t → ¬ W (nv + t)) {d : Nat} (hd : W d) : nrA d (Ev.evalO nv σ x) = true := by
  cases x with
  | tmp t =>
    have := h.nr _ (hx t rfl) d hd
    simp only [Ev.evalO]
    cases hv : σ.getD (nv + t) .u with
    | own e L =>
      have hne : nv + t ≠ d := fun e' => hx t rfl (e' ▸ hd)
      simp [nrA, hasVA, hasPA, hasV, hasP, nbeq_ne hne]
    | _ => rw [hv] at this; exact this
  | const v =>
    simp only [Ev.evalO]
    unfold constAV
    split <;> rfl
  | global g => rfl
  | func f => rfl
theorem Agr.ownOf (h : Agr W σ σ') {s : Nat} (hs : ¬ W s) : Ev.ownOf σ' s = Ev.ownOf σ s := by
  unfold Ev.ownOf
  rw [h.eq s hs]
theorem not_al {d s : Nat} (h : nrA d (.p (.al s)) = true) : s ≠ d := fun e => by subst e; simp [nrA, hasVA, hasV] at h
theorem not_go {d s : Nat} (h : nrA d (.p (.go s)) = true) : s ≠ d := fun e => by subst e; simp [nrA, hasVA, hasV] at h
theorem not_ep {d s i : Nat} (h : nrA d (.ep s i) = true) : s ≠ d := fun e => by subst e; simp [nrA, hasVA] at h
theorem Agr.al (h : Agr W σ σ') {x : Operand} (hx : ∀ t, x = .tmp t → ¬ W (nv + t)) {s : Nat} (hv : Ev.evalO nv σ x = .p (.al s)) : ¬ W s := fun hw => not_al (hv ▸ h.evalNr hx hw) rfl
theorem Agr.go (h : Agr W σ σ') {x : Operand} (hx : ∀ t, x = .tmp t → ¬ W (nv + t)) {s : Nat} (hv : Ev.evalO nv σ x = .p (.go s)) : ¬ W s := fun hw => not_go (hv ▸ h.evalNr hx hw) rfl
theorem Agr.ep (h : Agr W σ σ') {x : Operand} (hx : ∀ t, x = .tmp t → ¬ W (nv + t)) {s i : Nat} (hv : Ev.evalO nv σ x = .ep s i) : ¬ W s := fun hw => not_ep (hv ▸ h.evalNr hx hw) rfl
theorem Agr.cell (h : Agr W σ σ') {x : Operand} (hx : ∀ t, x = .tmp t → ¬ W (nv + t)) {b : Nat} (hv : cellAt (Ev.evalO nv σ x) = some b) : ¬ W b := fun hw => by
  have := h.evalNr (nv := nv) hx hw
  unfold cellAt at hv
  split at hv
  · rename_i b' hb
    injection hv with hv; subst hv
    rw [hb] at this
    have e1 : hasPA b' (.p (.pt b' 1)) = true := by
      simp only [hasPA, hasP, Bool.and_eq_true]
      exact ⟨Nat.ble_eq_true_of_le (Nat.le_refl _), by rw [Nat.blt_eq]; exact Nat.lt_succ_self _⟩
    rw [(nrA_iff.1 this).2] at e1
    cases e1
  · rename_i b' hb
    injection hv with hv; subst hv
    rw [hb] at this
    simp [nrA, hasVA, hasV, hasPA, hasP] at this
  · cases hv
theorem Agr.ownAny (h : Agr W σ σ') {s : Nat} (hs : ¬ W s) : Ev.ownAny σ' s = Ev.ownAny σ s := by unfold Ev.ownAny; rw [h.eq s hs]
theorem Agr.ownD (h : Agr W σ σ') {s : Nat} (hs : ¬ W s) : Ev.ownD σ' s = Ev.ownD σ s := by unfold Ev.ownD; rw [h.eq s hs]
theorem Agr.deepL (h : Agr W σ σ') {x : Operand} (hx : ∀ t, x = .tmp t → ¬ W (nv + t)) : Ev.deepL σ' (Ev.evalO nv σ' x) = Ev.deepL σ (Ev.evalO nv σ x) := by
  rw [h.evalO hx]
  cases hv : Ev.evalO nv σ x with
  | p y =>
    cases y with
    | al s => simp only [Ev.deepL]; rw [h.ownD (h.al hx hv)]
    | _ => rfl
  | _ => rfl
theorem Agr.listOf (h : Agr W σ σ') {x : Operand} (hx : ∀ t, x = .tmp t → ¬ W (nv + t)) : Ev.listOf σ' (Ev.evalO nv σ' x) = Ev.listOf σ (Ev.evalO nv σ x) := by
  rw [h.evalO hx]
  cases hv : Ev.evalO nv σ x with
  | p y =>
    cases y with
    | al s => simp only [Ev.listOf]; rw [h.ownOf (h.al hx hv)]
    | _ => rfl
  | _ => rfl
theorem Agr.listN (h : Agr W σ σ') {x : Operand} (hx : ∀ t, x = .tmp t → ¬ W (nv + t)) : Ev.listN σ' (Ev.evalO nv σ' x) = Ev.listN σ (Ev.evalO nv σ x) := by
  rw [h.evalO hx]
  cases hv : Ev.evalO nv σ x with
  | p y =>
    cases y with
    | al s => simp only [Ev.listN]; rw [h.ownOf (h.al hx hv)]
    | _ => rfl
  | _ => rfl
theorem Agr.roA (h : Agr W σ σ') {x : Operand} (hx : ∀ t, x = .tmp t → ¬ W (nv + t)) : Ev.roA σ' (Ev.evalO nv σ' x) = Ev.roA σ (Ev.evalO nv σ x) := by
  rw [h.evalO hx]
  cases hv : Ev.evalO nv σ x with
  | p y =>
    cases y with
    | al s => simp only [Ev.roA]; rw [h.ownOf (h.al hx hv), h.ownD (h.al hx hv)]
    | go s => simp only [Ev.roA]; rw [h.ownOf (h.go hx hv)]
    | _ => rfl
  | _ => rfl
theorem Agr.parts (h : Agr W σ σ') : ∀ (l : List (Nat × Operand)) (j : Nat), (∀ p ∈ l, ∀ t, p.2 = .tmp t → ¬ W (nv + t)) → partsOf nv σ' j l = partsOf nv σ j l
  | [], _, _ => rfl
  | (i, x) :: r, j, hl => by
    simp only [partsOf]
    rw [h.evalO (hl (i, x) List.mem_cons_self), h.parts r (j + 1) fun p hp => hl p (List.mem_cons_of_mem _ hp)]
theorem Agr.partsN (h : Agr W σ σ') (d : Nat) : ∀ (l : List (Nat × Operand)) (j : Nat), (∀ p ∈ l, ∀ t, p.2 = .tmp t → ¬ W (nv + t)) → Ev.partsN nv σ' d j l = Ev.partsN nv σ d j l
  | [], _, _ => rfl
  | (i, x) :: r, j, hl => by
    simp only [Ev.partsN]
    rw [h.evalO (hl (i, x) List.mem_cons_self), h.partsN d r (j + 1) fun p hp => hl p (List.mem_cons_of_mem _ hp)]
theorem Agr.ownParts (h : Agr W σ σ') : ∀ (l : List (Nat × Operand)), (∀ p ∈ l, ∀ t, p.2 = .tmp t → ¬ W (nv + t)) → Ev.ownParts nv σ' l = Ev.ownParts nv σ l
  | [], _ => rfl
  | (i, x) :: r, hl => by
    simp only [Ev.ownParts]
    rw [h.evalO (hl (i, x) List.mem_cons_self), h.ownParts r fun p hp => hl p (List.mem_cons_of_mem _ hp)]
theorem Agr.partsL (h : Agr W σ σ') : ∀ (l : List (Nat × Operand)) (j : Nat), (∀ p ∈ l, ∀ t, p.2 = .tmp t → ¬ W (nv + t)) → Ev.partsL nv σ' j l = Ev.partsL nv σ j l
  | [], _, _ => rfl
  | (i, x) :: r, j, hl => by
    simp only [Ev.partsL]
    rw [h.evalO (hl (i, x) List.mem_cons_self), h.partsL r (j + 1) fun p hp => hl p (List.mem_cons_of_mem _ hp)]
theorem Agr.valOp (h : Agr W σ σ') {op : Op} (hop : ∀ x ∈ op.operands.toList, ∀ t, x = .tmp t → ¬ W (nv + t)) (k : AV → Option R) : Ev.valOp E cl H nv σ' op k = Ev.valOp E cl H nv σ op k := by
  have he : ∀ x, x ∈ op.operands.toList → Ev.evalO nv σ' x = Ev.evalO nv σ x := fun x hx => h.evalO (hop x hx)
  cases op with
  | move x => simp only [Ev.valOp]; rw [he x (by simp [Op.operands])]
  | assign x => simp only [Ev.valOp]; rw [he x (by simp [Op.operands])]
  | slice t x lo hi mx =>
    cases mx with
    | none =>
      simp only [Ev.valOp]
      have hb : ∀ (dfl : Int) (y : Option Operand), (∀ z, y = some z → z ∈ (Op.slice t x lo hi none).operands.toList) → boundA nv σ' dfl y = boundA nv σ dfl y := fun dfl y hy => by
        unfold boundA
        cases y with
        | none => rfl
        | some z => simp only []; rw [he z (hy z rfl)]
      have h1 : ∀ dfl, boundA nv σ' dfl lo = boundA nv σ dfl lo := fun dfl => hb dfl lo fun z hz => by subst hz; simp [Op.operands]
      have h2 : ∀ dfl, boundA nv σ' dfl hi = boundA nv σ dfl hi := fun dfl => hb dfl hi fun z hz => by subst hz; simp [Op.operands]
      simp only [he x (by simp [Op.operands]), h1, h2]
    | some mx => rfl
  | pick c x y => simp only [Ev.valOp]; rw [he c (by simp [Op.operands]), he x (by simp [Op.operands]), he y (by simp [Op.operands])]
  | fieldAddr t x f => simp only [Ev.valOp]; rw [he x (by simp [Op.operands])]
  | nilCheck x => simp only [Ev.valOp]; rw [he x (by simp [Op.operands])]
  | field t x f => simp only [Ev.valOp]; rw [he x (by simp [Op.operands])]
  | load t x =>
    have hx := hop x (by simp [Op.operands])
    simp only [Ev.valOp]
    rw [he x (by simp [Op.operands])]
    cases hv : Ev.evalO nv σ x with
    | ep s i => simp only []; rw [h.ownOf (h.ep hx hv)]
    | p y =>
      cases y with
      | pt b n =>
        simp only []
        cases hc : cellAt (.p (.pt b n)) with
        | none => rfl
        | some b' => simp only []; rw [h.eq b' (h.cell hx (by rw [hv]; exact hc))]
      | fp b => simp only [cellAt]; rw [h.eq b (h.cell hx (by rw [hv]; rfl))]
      | _ => rfl
    | _ => rfl
  | binOp op t x y t' => simp only [Ev.valOp]; rw [he x (by simp [Op.operands]), he y (by simp [Op.operands])]
  | unOp op t x => simp only [Ev.valOp]; rw [he x (by simp [Op.operands])]
  | convert s d x => simp only [Ev.valOp]; rw [h.listOf (nv := nv) (hop x (by simp [Op.operands])), he x (by simp [Op.operands])]
  | indexAddr t x i =>
    have hx := hop x (by simp [Op.operands])
    simp only [Ev.valOp]
    rw [he x (by simp [Op.operands]), he i (by simp [Op.operands])]
    cases hv : Ev.evalO nv σ x with
    | p y =>
      cases y with
      | al s =>
        have e1 := h.ownAny (h.al hx hv)
        cases look E.sl t with
        | none =>
          cases Ev.evalO nv σ i with
          | p z => cases z with
            | sc z => cases z <;> rfl
            | _ => rfl
          | _ => rfl
        | some q =>
          cases Ev.evalO nv σ i with
          | p z => cases z with
            | sc z => cases z <;> first | rfl | (simp only []; rw [e1])
            | _ => rfl
          | _ => rfl
      | _ =>
        cases look E.sl t with
        | none =>
          cases Ev.evalO nv σ i with
          | p z => cases z with
            | sc z => cases z <;> rfl
            | _ => rfl
          | _ => rfl
        | some q =>
          cases Ev.evalO nv σ i with
          | p z => cases z with
            | sc z => cases z <;> rfl
            | _ => rfl
          | _ => rfl
    | _ =>
      cases look E.sl t with
      | none =>
        cases Ev.evalO nv σ i with
        | p z => cases z with
          | sc z => cases z <;> rfl
          | _ => rfl
        | _ => rfl
      | some q =>
        cases Ev.evalO nv σ i with
        | p z => cases z with
          | sc z => cases z <;> rfl
          | _ => rfl
        | _ => rfl
  | index t x i => simp only [Ev.valOp]; rw [he x (by simp [Op.operands]), he i (by simp [Op.operands])]
  | extract x i => simp only [Ev.valOp]; rw [he x (by simp [Op.operands])]
  | buildSlice t n ps =>
    simp only [Ev.valOp]
    have hps : ∀ p ∈ ps.toList, ∀ t', p.2 = .tmp t' → ¬ W (nv + t') := fun p hp => hop p.2 (by simp [Op.operands]; exact ⟨p.1, by simpa using hp⟩)
    simp only [h.parts _ _ hps, h.partsL _ _ hps, h.partsN _ _ _ hps]
  | makeSlice t x y => simp only [Ev.valOp]; rw [he x (by simp [Op.operands]), he y (by simp [Op.operands])]
  | makeFunc f first cap =>
    cases f with
    | func f =>
      simp only [Ev.valOp]
      rw [show cap.toList.map (Ev.evalO nv σ') = cap.toList.map (Ev.evalO nv σ) from List.map_congr_left fun x hx => he x (by simp [Op.operands]; right; simpa using hx)]
    | _ => rfl
  | call c =>
    obtain ⟨cal, args, tys⟩ := c
    have hin : ∀ x ∈ args.toList, x ∈ (Op.call ⟨cal, args, tys⟩).operands.toList := fun x hx => by simp [Op.operands, Call.operands]; right; simpa using hx
    simp only [Ev.valOp]
    split
    · split
      · rename_i f _ _ _ _
        rw [show argsRo nv σ' ⟨.value (.func f), args, tys⟩ = argsRo nv σ ⟨.value (.func f), args, tys⟩ from by
          unfold argsRo
          exact List.map_congr_left fun x hx => h.roA (hop x (hin x hx))]
      · rw [show (args.toList.map fun x => frzA (Ev.evalO nv σ' x)) = args.toList.map fun x => frzA (Ev.evalO nv σ x) from List.map_congr_left fun x hx => by rw [he x (hin x hx)]]
      · rfl
    · split
      · rename_i x t hx ht
        have hxi : x ∈ args.toList := by rw [hx]; simp
        have h1 := h.evalO (nv := nv) (hop x (hin x hxi))
        have h2 := h.listOf (nv := nv) (hop x (hin x hxi))
        have h3 := h.listN (nv := nv) (hop x (hin x hxi))
        have h4 := h.deepL (nv := nv) (hop x (hin x hxi))
        rw [h1] at h2 h3 h4 ⊢
        cases hv : Ev.evalO nv σ x with
        | p y =>
          rw [hv] at h2 h3 h4
          cases y with
          | sc z => cases z <;> rfl
          | al s =>
            show (match look E.sl t, Ev.listOf σ' (.p (.al s)) with
              | some _, some L => k (.p (.sc (.n .i64 L.length)))
              | some _, none => match Ev.listN σ' (.p (.al s)) with
                | some (_, L) => k (.p (.sc (.n .i64 L.length)))
                | none => match Ev.deepL σ' (.p (.al s)) with
                  | some L => k (.p (.sc (.n .i64 L.length)))
                  | none => none
              | _, _ => none) = _
            rw [h2, h3, h4]; rfl
          | _ => rfl
        | _ => rfl
      · rfl
    · rw [show args.toList.map (Ev.evalO nv σ') = args.toList.map (Ev.evalO nv σ) from List.map_congr_left fun x hx => he x (hin x hx)]
    · rw [show args.toList.map (Ev.evalO nv σ') = args.toList.map (Ev.evalO nv σ) from List.map_congr_left fun x hx => he x (hin x hx)]
    · rfl
  | _ => rfl
theorem Agr.refl (hr : ∀ t, ¬ W t → ∀ d, W d → nrA d (σ.getD t .u) = true) : Agr W σ σ := ⟨rfl, fun _ _ => rfl, hr⟩
theorem slv_nr {d : Nat} {e : TypeId} {L : List Sc} : nrA d (.p (slv e L)) = true := by unfold slv; cases isN e <;> rfl
theorem br_eq {α : Type} {t : Bool} {x : Option α} {v : α} (h : br t x none = some v) : x = some v := by
  rcases br_some h with ⟨_, h⟩ | ⟨_, h⟩
  · exact h
  · cases h
theorem scBin_nr {op : BinOp} {x y : Sc} {v : AV} (h : (scBin op x y fun z => some (AV.p (.sc z))) = some v) (d : Nat) : nrA d v = true := by
  have key : ∀ {o : Option AV} {v : AV}, (∃ z, o = some (.p (.sc z))) → o = some v → nrA d v = true := by
    rintro o v ⟨z, rfl⟩ h
    injection h with h
    subst h
    rfl
  cases x <;> cases y <;> cases op <;> simp only [scBin] at h <;> first
    | (cases h; done)
    | (injection h with h; subst h; rfl)
    | (rcases br_some h with ⟨_, h⟩ | ⟨_, h⟩ <;> first | (cases h; done) | (injection h with h; subst h; rfl))
    | (split at h <;> first
        | (cases h; done)
        | (injection h with h; subst h; rfl)
        | (rcases br_some h with ⟨_, h⟩ | ⟨_, h⟩ <;> first | (cases h; done) | (injection h with h; subst h; rfl)))
theorem pvs_nr {l : List AV} {fs : List Pv} (hp : pvs l = some fs) {d : Nat} (hd : ∀ v ∈ l, nrA d v = true) : nrA d (.fn 0 fs) = true := by
  have := pvs_spec hp
  subst this
  rw [nrA_iff]
  simp only [hasVA, hasPA, List.any_eq_false]
  constructor
  · intro y hy
    have := (nrA_iff.1 (hd (.p y) (List.mem_map.2 ⟨y, hy, rfl⟩))).1
    simpa [hasVA] using this
  · intro y hy
    have := (nrA_iff.1 (hd (.p y) (List.mem_map.2 ⟨y, hy, rfl⟩))).2
    simpa [hasPA] using this
theorem packed_nr {rs ex : List AV} {v : AV} (h : packed rs ex = some v) (d : Nat) : nrA d v = true := by
  unfold packed at h
  split at h
  · injection h with h; subst h; rfl
  · split at h
    · cases h
    · injection h with h; subst h; rfl
  · split at h
    · cases h
    · injection h with h; subst h; rfl
  · injection h with h; subst h; rfl
  · simp only [Option.map_eq_some_iff] at h
    obtain ⟨fs, h, rfl⟩ := h
    obtain ⟨ys, _, rfl⟩ := plains_spec h
    rw [nrA_iff]
    simp [hasVA, hasPA, hasV, hasP]
  · cases h
theorem al_nr {d s : Nat} (h : s ≠ d) : nrA d (.p (.al s)) = true := by simp [nrA, hasVA, hasPA, hasV, hasP, nbeq_ne h]
theorem go_nr {d s : Nat} (h : s ≠ d) : nrA d (.p (.go s)) = true := by simp [nrA, hasVA, hasPA, hasV, hasP, nbeq_ne h]
theorem ep_nr {d s i : Nat} (h : s ≠ d) : nrA d (.ep s i) = true := by simp [nrA, hasVA, hasPA, nbeq_ne h]
theorem Agr.valNr (h : Agr W σ σ') {op : Op} (hop : ∀ x ∈ op.operands.toList, ∀ t, x = .tmp t → ¬ W (nv + t)) {v : AV} (hv : Ev.valOp E cl H nv σ op some = some v) {d : Nat} (hd : W d) : nrA d v = true := by
  have he : ∀ x, x ∈ op.operands.toList → nrA d (Ev.evalO nv σ x) = true := fun x hx => h.evalNr (hop x hx) hd
  cases op with
  | move x => simp only [Ev.valOp, Option.some.injEq] at hv; subst hv; exact he x (by simp [Op.operands])
  | assign x => simp only [Ev.valOp, Option.some.injEq] at hv; subst hv; exact he x (by simp [Op.operands])
  | slice t x lo hi mx =>
    cases mx with
    | none =>
      simp only [Ev.valOp] at hv
      (repeat' split at hv) <;> first | (cases hv; done) | (rcases br_some hv with ⟨_, hv⟩ | ⟨_, hv⟩ <;> first | (cases hv; done) | (injection hv with hv; subst hv; first | exact slv_nr | rfl))
    | some mx => simp [Ev.valOp] at hv
  | pick c x y =>
    simp only [Ev.valOp] at hv
    (repeat' split at hv) <;> first | (cases hv; done) | (rcases br_some hv with ⟨_, hv⟩ | ⟨_, hv⟩ <;> first | (cases hv; done) | (injection hv with hv; subst hv; rfl))
  | nilCheck x =>
    have h1 := he x (by simp [Op.operands])
    simp only [Ev.valOp] at hv
    split at hv
    · rename_i b n hx
      injection hv with hv; subst hv
      rw [hx] at h1
      exact h1
    · rename_i b hx
      injection hv with hv; subst hv
      rw [hx] at h1
      exact h1
    · cases hv
  | fieldAddr t x f =>
    have h1 := he x (by simp [Op.operands])
    simp only [Ev.valOp] at hv
    split at hv
    · split at hv
      · injection hv with hv; subst hv; rfl
      · cases hv
    · rename_i b n hx
      split at hv
      · rename_i m _
        split at hv
        · rename_i hc
          simp only [Bool.and_eq_true] at hc
          have hfn : f < n := by have := hc.2; rwa [Nat.blt_eq] at this
          injection hv with hv
          rw [hx] at h1
          have h2 := (nrA_iff.1 h1).2
          simp only [hasPA, hasP] at h2
          have h3 : ¬ (b ≤ d ∧ d < b + n) := fun ⟨g1, g2⟩ => by
            rw [Nat.ble_eq_true_of_le g1, show Nat.blt d (b + n) = true from by rw [Nat.blt_eq]; exact g2] at h2
            cases h2
          subst hv
          split
          · exact h1
          · rw [nrA_iff]
            simp only [hasVA, hasPA, hasV, hasP, true_and]
            exact nbeq_ne (fun e => h3 (by omega))
        · cases hv
      · cases hv
    · cases hv
  | field t x f =>
    have h1 := he x (by simp [Op.operands])
    simp only [Ev.valOp] at hv
    split at hv
    · injection hv with hv; subst hv; rfl
    · rename_i q _ hx
      injection hv with hv; subst hv
      rw [hx] at h1
      exact al_nr (not_go h1)
    · cases hv
  | load t x =>
    have hx := hop x (by simp [Op.operands])
    simp only [Ev.valOp] at hv
    split at hv
    · split at hv
      · injection hv with hv; subst hv; rfl
      · injection hv with hv; subst hv; rfl
      · cases hv
    · split at hv
      · injection hv with hv; subst hv; rfl
      · cases hv
    · split at hv
      · injection hv with hv; subst hv; rfl
      · cases hv
    · split at hv
      · split at hv
        · cases hv
        · have := br_eq hv; injection this with hv; subst hv; rfl
      · split at hv
        · split at hv
          · injection hv with hv; subst hv; rfl
          · injection hv with hv; subst hv; rfl
        · cases hv
      · cases hv
    · split at hv
      · rename_i b hb
        have hbW := h.cell hx hb
        have hbn := h.nr b hbW d hd
        have hbd : b ≠ d := fun e => hbW (e ▸ hd)
        split at hv
        · split at hv
          · injection hv with hv; subst hv; exact al_nr hbd
          · cases hv
          · cases hv
          · injection hv with hv; subst hv; exact hbn
        · split at hv
          · injection hv with hv; subst hv; exact go_nr hbd
          · injection hv with hv; subst hv; rfl
          · split at hv
            · cases hv
            · injection hv with hv; subst hv; rfl
          · rename_i q hq
            injection hv with hv; subst hv
            rw [hq] at hbn
            exact go_nr (not_al hbn)
          · cases hv
        · cases hv
      · cases hv
  | binOp op t x y t' =>
    simp only [Ev.valOp] at hv
    split at hv
    · split at hv
      · exact scBin_nr hv d
      · cases hv
    · cases hv
  | unOp op t x =>
    simp only [Ev.valOp] at hv
    split at hv
    · injection hv with hv; subst hv; rfl
    · injection hv with hv; subst hv; rfl
    · cases hv
  | convert s d' x =>
    simp only [Ev.valOp] at hv
    split at hv
    · injection hv with hv; subst hv; rfl
    · unfold convS at hv
      split at hv
      · split at hv
        · have := br_eq hv; injection this with hv; subst hv; rfl
        · cases hv
      · cases hv
    · cases hv
  | indexAddr t x i =>
    have h1 := he x (by simp [Op.operands])
    simp only [Ev.valOp] at hv
    split at hv
    · have := br_eq hv; injection this with hv; subst hv; rfl
    · split at hv
      · have := br_eq hv; injection this with hv; subst hv; rfl
      · split at hv
        · have := br_eq hv; injection this with hv; subst hv; rfl
        · have := br_eq hv; injection this with hv; subst hv; rfl
    · split at hv
      · cases hv
      · have := br_eq hv; injection this with hv; subst hv; rfl
      · have := br_eq hv; injection this with hv; subst hv; rfl
    · rename_i s _ _ _ hx _
      split at hv
      · have := br_eq hv
        injection this with hv; subst hv
        rw [hx] at h1
        exact ep_nr (not_al h1)
      · cases hv
    · split at hv
      · have := br_eq hv; injection this with hv; subst hv; rfl
      · cases hv
    · cases hv
  | index t x i =>
    simp only [Ev.valOp] at hv
    split at hv
    · have := br_eq hv; injection this with hv; subst hv; rfl
    · cases hv
  | extract x i =>
    have h1 := he x (by simp [Op.operands])
    simp only [Ev.valOp] at hv
    split at hv
    · rename_i v' hx
      injection hv with hv; subst hv
      unfold extractA at hx
      split at hx
      · rename_i fs j hfs
        simp only [Option.map_eq_some_iff] at hx
        obtain ⟨y, hy, rfl⟩ := hx
        rw [hfs] at h1
        have h2 := nrA_iff.1 h1
        simp only [hasVA, hasPA, List.any_eq_false] at h2
        rw [nrA_iff]
        exact ⟨by simpa [hasVA] using h2.1 y (List.mem_of_getElem? hy), by simpa [hasPA] using h2.2 y (List.mem_of_getElem? hy)⟩
      · cases hx
    · cases hv
  | buildSlice t n ps =>
    simp only [Ev.valOp] at hv
    split at hv
    · split at hv
      · split at hv
        · injection hv with hv; subst hv; rfl
        · cases hv
      · split at hv
        · injection hv with hv; subst hv; rfl
        · cases hv
    · split at hv
      · injection hv with hv; subst hv; rfl
      · cases hv
    · cases hv
  | makeSlice t x y =>
    simp only [Ev.valOp] at hv
    split at hv
    · split at hv
      · cases hv
      · have := br_eq hv; injection this with hv; subst hv; rfl
    · cases hv
  | makeFunc f first cap =>
    cases f with
    | func f =>
      simp only [Ev.valOp] at hv
      split at hv
      · rename_i fs _ hp
        injection hv with hv; subst hv
        have := pvs_nr hp (d := d) fun v hv => by
          obtain ⟨x, hx, rfl⟩ := List.mem_map.1 hv
          exact he x (by simp [Op.operands]; right; simpa using hx)
        exact this
      · cases hv
    | _ => simp [Ev.valOp] at hv
  | call c =>
    simp only [Ev.valOp] at hv
    split at hv
    · split at hv
      · split at hv
        · split at hv
          · split at hv
            · rename_i hp
              have := br_eq hv
              injection this with hv; subst hv
              exact packed_nr hp d
            · cases hv
          · cases hv
        · cases hv
      · split at hv
        · split at hv
          · have := br_eq hv
            injection this with hv; subst hv; rfl
          · cases hv
        · cases hv
      · cases hv
    · split at hv
      · split at hv
        · split at hv
          · injection hv with hv; subst hv; rfl
          · cases hv
        · split at hv
          · injection hv with hv; subst hv; rfl
          · cases hv
        · split at hv
          · injection hv with hv; subst hv; rfl
          · split at hv
            · injection hv with hv; subst hv; rfl
            · split at hv
              · injection hv with hv; subst hv; rfl
              · cases hv
          · cases hv
      · cases hv
    · split at hv
      · injection hv with hv; subst hv; rfl
      · cases hv
    · split at hv
      · injection hv with hv; subst hv; rfl
      · cases hv
    · cases hv
  | _ => simp [Ev.valOp] at hv
end
end Go.Proofs.YtlnhommmmajllaaGreat.Ev
