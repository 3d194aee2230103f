/-
  VDraw2: operations that may change places; every order of a region comes to the text's own.
-/
import Derived.Test.YtlnhommmmajllaaGreatVDraw
set_option linter.unusedVariables false
namespace Go.Proofs.YtlnhommmmajllaaGreat.Ev
open Go Go.RowKit
section
variable {P : Program} {E : Env} {cl : Calling} {H : Hints} {F : Fi} {Y : Nat → Prop} {w0 w w' : World} {m : Nat} {Mp : Mem} {nv : Nat} {M : Mem} {σ : List AV} {a : Act} {R : Type}
def wantA (F : Fi) (all : Array Oper) (σ : List AV) (o : Oper) : Option Bool :=
  match o.guard with
  | none => some true
  | some (j, want) => match (all[j]?).bind (·.dst) with
    | some d => match σ.getD (F.nv + d) .u with
      | .p (.sc (.b x)) => some (x == want)
      | .und => some false
      | _ => none
    | none => none
theorem act_want {all : Array Oper} {solo : Bool} {o : Oper} : act E cl H F all solo o σ = match wantA F all σ o with
    | some true => oneOp E cl H F true solo σ o some
    | some false => skipOp F true σ o some
    | none => none := by
  unfold act guarded wantA
  cases hg : o.guard with
  | none => rfl
  | some q =>
    obtain ⟨j, want⟩ := q
    simp only []
    cases hd : (all[j]?).bind (·.dst) with
    | none => rfl
    | some d =>
      simp only []
      cases hv : σ.getD (F.nv + d) .u with
      | p y =>
        cases y with
        | sc z =>
          cases z with
          | b x =>
            simp only []
            cases hx : x == want with
            | true =>
              have hx : x = want := by simpa using hx
              subst hx
              show oneOp E cl H F true solo (σ.set (F.nv + d) (.p (.sc (.b x)))) o some = _
              rw [set_self hv (by simp)]
            | false =>
              have hx : x = !want := by cases x <;> cases want <;> simp_all
              subst hx
              show skipOp F true (σ.set (F.nv + d) (.p (.sc (.b (!want))))) o some = _
              rw [set_self hv (by simp)]
          | _ => rfl
        | _ => rfl
      | _ => rfl
def Keys (U : List (Nat × AV)) (d : Nat) : Prop := ∃ x ∈ U, x.1 = d
def Wr (F : Fi) (o : Oper) (d : Nat) : Prop := (∃ t, o.dst = some t ∧ d = F.nv + t) ∨ ∃ t, argA o = some t ∧ d = F.nv + t
structure LocU (E : Env) (cl : Calling) (H : Hints) (F : Fi) (all : Array Oper) (o : Oper) (σ : List AV) (U : List (Nat × AV)) : Prop where
  act : ∀ solo, act E cl H F all solo o σ = some (setAll U σ)
  wr : ∀ d, Keys U d → Wr F o d
  nr : ∀ d, Keys U d → ∀ t, nrA d (σ.getD t .u) = true
  un : ∀ d, Keys U d → ∀ q, nrA q (σ.getD d .u) = true
  move : ∀ (W : Nat → Prop) σ', Agr W σ σ' → (∀ t ∈ o.looksAt all, ¬ W (F.nv + t)) → (∀ d, Keys U d → ¬ W d) → (∀ t, W t → ∀ d, Keys U d → nrA d (σ'.getD t .u) = true) →
    (∀ solo, Ev.act E cl H F all solo o σ' = some (setAll U σ')) ∧ ∀ x ∈ U, ∀ d, W d → nrA d x.2 = true
theorem looks_op {all : Array Oper} {o : Oper} {t : Nat} (h : Operand.tmp t ∈ o.op.operands.toList) : t ∈ o.looksAt all := by
  unfold Oper.looksAt
  exact List.mem_append_left _ (List.mem_filterMap.2 ⟨.tmp t, h, rfl⟩)
theorem looks_guard {all : Array Oper} {o : Oper} {j d : Nat} {b : Bool} (hg : o.guard = some (j, b)) (hd : (all[j]?).bind (·.dst) = some d) : d ∈ o.looksAt all := by
  unfold Oper.looksAt
  refine List.mem_append_right _ ?_
  simp [hg, hd]
theorem Agr.want {W : Nat → Prop} {σ' : List AV} (h : Agr W σ σ') {all : Array Oper} {o : Oper} (hl : ∀ t ∈ o.looksAt all, ¬ W (F.nv + t)) : wantA F all σ' o = wantA F all σ o := by
  unfold wantA
  cases hg : o.guard with
  | none => rfl
  | some q =>
    obtain ⟨j, want⟩ := q
    simp only []
    cases hd : (all[j]?).bind (·.dst) with
    | none => rfl
    | some d =>
      simp only []
      rw [h.eq _ (hl d (looks_guard hg hd))]
theorem Agr.apart {W : Nat → Prop} {σ' : List AV} (h : Agr W σ σ') {d : Nat} (hd : ¬ W d) (ha : apartA σ d = true) (hW : ∀ t, W t → nrA d (σ'.getD t .u) = true) : apartA σ' d = true := by
  unfold apartA at ha ⊢
  simp only [Bool.and_eq_true] at ha ⊢
  rw [noRef_iff] at ha ⊢
  refine ⟨by rw [h.eq d hd]; exact ha.1, fun t => ?_⟩
  by_cases ht : W t
  · exact hW t ht
  · rw [h.eq t ht]; exact ha.2 t
theorem apart_nr {d : Nat} (h : apartA σ d = true) : (∀ t, nrA d (σ.getD t .u) = true) ∧ ∀ q, nrA q (σ.getD d .u) = true := by
  unfold apartA at h
  simp only [Bool.and_eq_true, Bool.not_eq_true'] at h
  exact ⟨noRef_iff.1 h.2, fun q => anyV_nr h.1 q⟩
theorem keys_one {d : Nat} {v : AV} {q : Nat} : Keys [(d, v)] q ↔ q = d := by
  unfold Keys
  constructor
  · rintro ⟨x, hx, h⟩
    simp only [List.mem_singleton] at hx
    rw [← h, hx]
  · rintro rfl
    exact ⟨_, List.mem_singleton.2 rfl, rfl⟩
theorem skip_loc {all : Array Oper} {o : Oper} {d : Nat} (hd : o.dst = some d) (hw : wantA F all σ o = some false) (ha : apartA σ (F.nv + d) = true) : LocU E cl H F all o σ [(F.nv + d, .und)] := by
  have key : ∀ {σ' : List AV}, wantA F all σ' o = some false → apartA σ' (F.nv + d) = true → ∀ solo, act E cl H F all solo o σ' = some (setAll [(F.nv + d, .und)] σ') := by
    intro σ' hw ha solo
    rw [act_want, hw]
    simp only [skipOp, hd, ha]
    rfl
  refine ⟨key hw ha, fun q hq => .inl ⟨d, hd, keys_one.1 hq⟩, fun q hq => by rw [keys_one.1 hq]; exact (apart_nr ha).1, fun q hq => by rw [keys_one.1 hq]; exact (apart_nr ha).2, fun W σ' hag hl hk hW => ⟨key ?_ ?_, fun x hx q _ => ?_⟩⟩
  · rw [hag.want hl]; exact hw
  · exact hag.apart (hk _ (keys_one.2 rfl)) ha fun t ht => hW t ht _ (keys_one.2 rfl)
  · simp only [List.mem_singleton] at hx; rw [hx]; rfl
theorem valOp_some {op : Op} {k : AV → Option R} {r : R} (h : valOp E cl H nv σ op k = some r) : ∃ v, valOp E cl H nv σ op some = some v ∧ k v = some r := by
  have := valOp_bind (E := E) (cl := cl) (H := H) (nv := nv) (σ := σ) op (f := some) k
  simp only [Option.bind_some] at this
  rw [← this] at h
  exact Option.bind_eq_some_iff.1 h
theorem valOp_of {op : Op} {v : AV} (h : valOp E cl H nv σ op some = some v) (k : AV → Option R) : valOp E cl H nv σ op k = k v := by
  have := valOp_bind (E := E) (cl := cl) (H := H) (nv := nv) (σ := σ) op (f := some) k
  simp only [Option.bind_some] at this
  rw [← this, h]
  rfl
theorem Agr.dyn {W : Nat → Prop} {σ σ' : List AV} (h : Agr W σ σ') {op : Op} (hop : ∀ x ∈ op.operands.toList, ∀ t, x = .tmp t → ¬ W (F.nv + t)) : dynV F σ' op = dynV F σ op := by
  cases op with
  | assign x => simp only [dynV]; rw [h.evalO (hop x (by simp [Op.operands]))]
  | slice t x lo hi mx => simp only [dynV]; rw [h.evalO (hop x (by simp [Op.operands]))]
  | buildSlice t n ps =>
    simp only [dynV]
    rw [h.ownParts _ fun p hp => hop p.2 (by simp [Op.operands]; exact ⟨p.1, by simpa using hp⟩)]
  | _ => rfl
theorem val_loc {all : Array Oper} {o : Oper} {d : Nat} {v : AV} (hd : o.dst = some d) (hk : (kindV H F o.dst o.op && dynV F σ o.op) = true) (hw : wantA F all σ o = some true) (ha : apartA σ (F.nv + d) = true) (hv : valOp E cl H F.nv σ o.op some = some v) (hn : nrA (F.nv + d) v = true) :
    LocU E cl H F all o σ [(F.nv + d, v)] := by
  have key : ∀ {σ' : List AV}, (kindV H F o.dst o.op && dynV F σ' o.op) = true → wantA F all σ' o = some true → apartA σ' (F.nv + d) = true → valOp E cl H F.nv σ' o.op some = some v → ∀ solo, act E cl H F all solo o σ' = some (setAll [(F.nv + d, v)] σ') := by
    intro σ' hk hw ha hv solo
    rw [act_want, hw]
    simp only [oneOp, stepD]
    rw [hk, hd]
    simp only [ha]
    rw [valOp_of hv]
    simp only [hn]
    rfl
  refine ⟨key hk hw ha hv, fun q hq => .inl ⟨d, hd, keys_one.1 hq⟩, fun q hq => by rw [keys_one.1 hq]; exact (apart_nr ha).1, fun q hq => by rw [keys_one.1 hq]; exact (apart_nr ha).2, fun W σ' hag hl hkk hW => ⟨key ?_ ?_ ?_ ?_, fun x hx q hq => ?_⟩⟩
  · rw [hag.dyn fun x hx t ht => hl t (looks_op (ht ▸ hx))]; exact hk
  · rw [hag.want hl]; exact hw
  · exact hag.apart (hkk _ (keys_one.2 rfl)) ha fun t ht => hW t ht _ (keys_one.2 rfl)
  · rw [hag.valOp fun x hx t ht => hl t (looks_op (ht ▸ hx))]; exact hv
  · simp only [List.mem_singleton] at hx
    rw [hx]
    exact hag.valNr (fun x hx t ht => hl t (looks_op (ht ▸ hx))) hv hq
theorem killV_plain {d : Nat} (h : refable (σ.getD d .u) = false) : killV d σ = σ := by
  unfold killV
  cases hv : σ.getD d .u <;> rw [hv] at h <;> simp_all [refable]
theorem anyV_refable {v : AV} (h : anyV v = false) : refable v = false := by cases v <;> simp_all [anyV, refable]
theorem keys_two {d d' : Nat} {v v' : AV} {q : Nat} : Keys [(d, v), (d', v')] q ↔ q = d ∨ q = d' := by
  unfold Keys
  constructor
  · rintro ⟨x, hx, h⟩
    simp only [List.mem_cons, List.not_mem_nil, or_false] at hx
    rcases hx with hx | hx
    · left; rw [← h, hx]
    · right; rw [← h, hx]
  · rintro (rfl | rfl)
    · exact ⟨(q, v), by simp, rfl⟩
    · exact ⟨(q, v'), by simp, rfl⟩
theorem app_loc {all : Array Oper} {o : Oper} {d : Nat} {σ1 : List AV} (hd : o.dst = some d) (hw : wantA F all σ o = some true) (ha : appD F σ o.dst o.op = true) (hs : stepOp E cl H F σ o.dst o.op some = some σ1) :
    ∃ U, σ1 = setAll U σ ∧ LocU E cl H F all o σ U := by
  unfold appD at ha
  split at ha
  case h_2 => cases ha
  rename_i c d' hop hdd
  rw [hd] at hdd
  injection hdd with hdd
  subst hdd
  split at ha
  case h_2 => cases ha
  rename_i t rest hc hargs
  split at ha
  case h_2 => cases ha
  rename_i e L hown
  simp only [Bool.and_eq_true, Bool.not_eq_true'] at ha
  obtain ⟨hdp, ha1, ha2, ha3⟩ := ha
  have htd : t ≠ d := fun e' => by subst e'; simp at ha3
  obtain ⟨cal, args, tys⟩ := c
  simp only at hc hargs
  subst hc
  have hAny : anyV (σ.getD (F.nv + d) .u) = false := by
    unfold apartA at ha2
    simp only [Bool.and_eq_true, Bool.not_eq_true'] at ha2
    exact ha2.1
  have hne : F.nv + t ≠ F.nv + d := fun e' => htd (Nat.add_left_cancel e')
  have key : ∀ {σ' : List AV}, σ'.getD (F.nv + t) .u = .own e L → noRef σ' (F.nv + t) = true → apartA σ' (F.nv + d) = true → ∀ {M : List Sc}, (∀ (k : List AV → Option (List AV)), stepOp E cl H F σ' (some d) (.call ⟨.builtin .append, args, tys⟩) k = br (decide (L.length + M.length ≤ lim)) (k (setA (σ'.set (F.nv + t) .mv) (F.nv + d) (.own e (L ++ M)))) none) →
      L.length + M.length ≤ lim → wantA F all σ' o = some true → ∀ solo, act E cl H F all solo o σ' = some (setAll [(F.nv + t, .mv), (F.nv + d, .own e (L ++ M))] σ') := by
    intro σ' h1 h2 h3 M h4 h5 h6 solo
    have hA' : anyV (σ'.getD (F.nv + d) .u) = false := by
      unfold apartA at h3
      simp only [Bool.and_eq_true, Bool.not_eq_true'] at h3
      exact h3.1
    have happ : appD F σ' (some d) (.call ⟨.builtin .append, args, tys⟩) = true := by
      simp only [appD, hargs, h1, h2, h3, ha3, hdp, Bool.not_false, Bool.and_self]
    rw [act_want, h6]
    simp only [oneOp, stepD]
    rw [hop, hd]
    simp only [kindV, pureS, happ, Bool.true_or, Bool.or_true, Bool.false_and]
    rw [h4, show decide (L.length + M.length ≤ lim) = true from decide_eq_true h5]
    have hk : setA (σ'.set (F.nv + t) .mv) (F.nv + d) (.own e (L ++ M)) = setAll [(F.nv + t, .mv), (F.nv + d, .own e (L ++ M))] σ' := by
      unfold setA
      rw [killV_plain (by rw [getD_set_other _ _ _ _ _ hne]; exact anyV_refable hA')]
      rfl
    show some _ = some _
    rw [hk]
  rw [hd, hop] at hs
  have hs0 := hs
  simp only [stepOp] at hs
  split at hs
  case h_2 => cases hs
  rename_i x y t1 t2 d2 hx hty hd2
  injection hd2 with hd2
  subst hd2
  rw [hargs] at hx
  injection hx with hx1 hx2
  subst hx1
  have hev : evalO F.nv σ (.tmp t) = .p (.al (F.nv + t)) := by simp only [evalO, hown]
  rw [hev] at hs
  split at hs
  case h_2 => cases hs
  rename_i e0 z s hls htt hss
  injection hss with hss
  injection hss with hss
  subst hss
  have how : ownOf σ (F.nv + t) = some (e, L) := by simp only [ownOf, hown, hdp]
  rw [how] at hs
  obtain ⟨M, hlen, sform⟩ : ∃ M, L.length + M.length ≤ lim ∧ ∀ {σ' : List AV}, σ'.getD (F.nv + t) .u = .own e L → listOf σ' (evalO F.nv σ' y) = listOf σ (evalO F.nv σ y) → listN σ' (evalO F.nv σ' y) = listN σ (evalO F.nv σ y) → ∀ (k : List AV → Option (List AV)), stepOp E cl H F σ' (some d) (.call ⟨.builtin .append, args, tys⟩) k = br (decide (L.length + M.length ≤ lim)) (k (setA (σ'.set (F.nv + t) .mv) (F.nv + d) (.own e (L ++ M)))) none := by
    split at hs
    · rename_i e1 L1 M h1 hM
      simp only [Option.some.injEq, Prod.mk.injEq] at h1
      obtain ⟨rfl, rfl⟩ := h1
      split at hs
      case h_2 => cases hs
      rename_i hee hnf
      refine ⟨M, ?_, fun {σ'} h1 h2 h3 k => ?_⟩
      · rcases br_some hs with ⟨h1, _⟩ | ⟨_, h1⟩
        · simpa using h1
        · cases h1
      · have e1 : evalO F.nv σ' (.tmp t) = .p (.al (F.nv + t)) := by simp only [evalO, h1]
        have e2 : ownOf σ' (F.nv + t) = some (e, L) := by simp only [ownOf, h1, hdp]
        rw [hM] at h2
        simp only [stepOp, hargs, hx2, hty, hls, htt, e1, e2, h2, hee, hnf]
    · rename_i e1 L1 h1 hM
      simp only [Option.some.injEq, Prod.mk.injEq] at h1
      obtain ⟨rfl, rfl⟩ := h1
      split at hs
      case h_2 => cases hs
      rename_i dd M hee hnf hN
      split at hs
      case h_2 => cases hs
      rename_i hdd
      refine ⟨M, ?_, fun {σ'} h1 h2 h3 k => ?_⟩
      · rcases br_some hs with ⟨h1, _⟩ | ⟨_, h1⟩
        · simpa using h1
        · cases h1
      · have e1 : evalO F.nv σ' (.tmp t) = .p (.al (F.nv + t)) := by simp only [evalO, h1]
        have e2 : ownOf σ' (F.nv + t) = some (e, L) := by simp only [ownOf, h1, hdp]
        rw [hM] at h2
        rw [hN] at h3
        simp only [stepOp, hargs, hx2, hty, hls, htt, e1, e2, h2, h3, hee, hnf, hdd]
    · rename_i hh; cases hh
  refine ⟨[(F.nv + t, .mv), (F.nv + d, .own e (L ++ M))], ?_, key hown ha1 ha2 (sform hown rfl rfl) hlen hw, fun q hq => ?_, fun q hq => ?_, fun q hq => ?_, fun W σ' hag hl hkk hW => ⟨key ?_ ?_ ?_ (sform ?_ ?_ ?_) hlen ?_, fun x hx q _ => ?_⟩⟩
  · have := sform hown rfl rfl some
    rw [hs0, show decide (L.length + M.length ≤ lim) = true from decide_eq_true hlen] at this
    injection this with this
    rw [this]
    unfold setA
    rw [killV_plain (by rw [getD_set_other _ _ _ _ _ hne]; exact anyV_refable hAny)]
    rfl
  · rcases keys_two.1 hq with h1 | h1
    · exact .inr ⟨t, by simp [argA, hop, hargs], h1⟩
    · exact .inl ⟨d, hd, h1⟩
  · rcases keys_two.1 hq with h1 | h1
    · rw [h1]; exact noRef_iff.1 ha1
    · rw [h1]; exact (apart_nr ha2).1
  · rcases keys_two.1 hq with h1 | h1
    · rw [h1, hown]; exact fun _ => rfl
    · rw [h1]; exact (apart_nr ha2).2
  · rw [hag.eq _ (hkk _ (keys_two.2 (.inl rfl)))]; exact hown
  · rw [noRef_iff]
    intro q
    by_cases hq : W q
    · exact hW q hq _ (keys_two.2 (.inl rfl))
    · rw [hag.eq q hq]; exact noRef_iff.1 ha1 q
  · exact hag.apart (hkk _ (keys_two.2 (.inr rfl))) ha2 fun q hq => hW q hq _ (keys_two.2 (.inr rfl))
  · rw [hag.eq _ (hkk _ (keys_two.2 (.inl rfl)))]; exact hown
  · have hy : ∀ t', y = .tmp t' → ¬ W (F.nv + t') := fun t' ht' => hl t' (looks_op (by rw [hop]; simp [Op.operands, Call.operands]; rw [show args = args.toList.toArray by simp, hargs, hx2, ht']; simp))
    rw [hag.listOf hy]
  · have hy : ∀ t', y = .tmp t' → ¬ W (F.nv + t') := fun t' ht' => hl t' (looks_op (by rw [hop]; simp [Op.operands, Call.operands]; rw [show args = args.toList.toArray by simp, hargs, hx2, ht']; simp))
    rw [hag.listN hy]
  · rw [hag.want hl]; exact hw
  · simp only [List.mem_cons, List.not_mem_nil, or_false] at hx
    rcases hx with hx | hx <;> rw [hx] <;> rfl
theorem act_loc {all : Array Oper} {o : Oper} {σ1 : List AV} (hl : isLoc H F o = true) (h : act E cl H F all false o σ = some σ1) : ∃ U, σ1 = setAll U σ ∧ LocU E cl H F all o σ U := by
  unfold isLoc at hl
  simp only [Bool.and_eq_true] at hl
  obtain ⟨h1, h2⟩ := hl
  obtain ⟨d, hd⟩ := Option.isSome_iff_exists.1 h1
  rw [act_want] at h
  split at h
  · rename_i hw
    simp only [oneOp, stepD] at h
    split at h
    · rename_i d' hk hdd
      rw [hd] at hdd
      injection hdd with hdd
      subst hdd
      split at h
      · rename_i ha
        obtain ⟨v, hv, h⟩ := valOp_some h
        split at h
        · rename_i hn
          injection h with h
          exact ⟨[(F.nv + d, v)], h.symm, val_loc hd hk hw ha hv hn⟩
        · cases h
      · cases h
    · rename_i hnk
      split at h
      · rename_i hq
        simp only [Bool.false_or, Bool.or_eq_true] at hq
        rcases hq with hq | hq
        · exact app_loc hd hw hq h
        · exfalso
          rw [hd] at hq
          unfold stoD at hq
          split at hq
          · rename_i hx; cases hx
          · cases hq
      · cases h
  · rename_i hw
    simp only [skipOp, hd] at h
    split at h
    · rename_i ha
      injection h with h
      exact ⟨[(F.nv + d, .und)], h.symm, skip_loc hd hw ha⟩
    · cases h
  · cases h
theorem setAll_comm : ∀ (l m : List (Nat × AV)) (σ : List AV), (∀ x ∈ l, ∀ y ∈ m, x.1 ≠ y.1) → setAll l (setAll m σ) = setAll m (setAll l σ)
  | [], m, σ, _ => rfl
  | (i, v) :: l, m, σ, h => by
    have one : ∀ (m : List (Nat × AV)) (σ : List AV), (∀ y ∈ m, i ≠ y.1) → (setAll m σ).set i v = setAll m (σ.set i v) := by
      intro m
      induction m with
      | nil => intro σ _; rfl
      | cons y m ih =>
        intro σ hm
        obtain ⟨j, v2⟩ := y
        simp only [setAll]
        rw [ih _ fun y hy => hm y (List.mem_cons_of_mem _ hy), List.set_comm _ _ (Ne.symm (hm (j, v2) List.mem_cons_self))]
    simp only [setAll]
    rw [one m σ fun y hy => h (i, v) List.mem_cons_self y hy]
    exact setAll_comm l m _ fun x hx => h x (List.mem_cons_of_mem _ hx)
theorem act_comm {all : Array Oper} {oi oj : Oper} {σ1 σ2 : List AV} (hc : isLoc H F oi = true ∧ isLoc H F oj = true ∧ farA all oi oj = true ∧ farA all oj oi = true) (hap : oi.apart all oj = true)
    (h1 : act E cl H F all false oi σ = some σ1) (h2 : act E cl H F all false oj σ1 = some σ2) (solo solo' : Bool) : ∃ σ1', act E cl H F all solo oj σ = some σ1' ∧ act E cl H F all solo' oi σ1' = some σ2 := by
  obtain ⟨c1, c2, c3, c4⟩ := hc
  obtain ⟨p1, p2, p3⟩ := Oper.apart_spec hap
  obtain ⟨U, rfl, hU⟩ := act_loc c1 h1
  obtain ⟨V, rfl, hV⟩ := act_loc c2 h2
  have far : ∀ {x y : Oper}, farA all x y = true → ∀ t, argA x = some t → t ∉ y.looksAt all ∧ y.dst ≠ some t := by
    intro x y hf t ht
    unfold farA at hf
    rw [ht] at hf
    simpa using hf
  have hdst : ∀ t, oi.dst = some t → oj.dst ≠ some t := p2
  have argIn : ∀ {o : Oper} {t : Nat}, argA o = some t → t ∈ o.looksAt all := by
    intro o t ht
    refine looks_op ?_
    unfold argA at ht
    split at ht
    · rename_i c hop
      split at ht
      · rename_i t' r hc hargs
        injection ht with ht
        subst ht
        rw [hop]
        simp [Op.operands, Call.operands]
        right
        rw [show c.args = c.args.toList.toArray by simp, hargs]
        simp
      · cases ht
    · cases ht
  have lookU : ∀ t ∈ oj.looksAt all, ¬ Keys U (F.nv + t) := by
    intro t ht hk
    rcases hU.wr _ hk with ⟨q, hq, he⟩ | ⟨q, hq, he⟩
    · have : t = q := Nat.add_left_cancel he
      subst this
      exact p1 t hq ht
    · have : t = q := Nat.add_left_cancel he
      subst this
      exact (far c3 t hq).1 ht
  have lookV : ∀ t ∈ oi.looksAt all, ¬ Keys V (F.nv + t) := by
    intro t ht hk
    rcases hV.wr _ hk with ⟨q, hq, he⟩ | ⟨q, hq, he⟩
    · have : t = q := Nat.add_left_cancel he
      subst this
      exact p3 t hq ht
    · have : t = q := Nat.add_left_cancel he
      subst this
      exact (far c4 t hq).1 ht
  have dis : ∀ d, Keys U d → ¬ Keys V d := by
    intro d hu hv
    rcases hU.wr _ hu with ⟨q, hq, he⟩ | ⟨q, hq, he⟩ <;> rcases hV.wr _ hv with ⟨r, hr, he'⟩ | ⟨r, hr, he'⟩
    · have : q = r := Nat.add_left_cancel (he.symm.trans he')
      subst this
      exact hdst q hq hr
    · have : q = r := Nat.add_left_cancel (he.symm.trans he')
      subst this
      exact (far c4 q hr).2 hq
    · have : q = r := Nat.add_left_cancel (he.symm.trans he')
      subst this
      exact (far c3 q hq).2 hr
    · have : q = r := Nat.add_left_cancel (he.symm.trans he')
      subst this
      exact (far c3 q hq).1 (argIn hr)
  have keyOut : ∀ {U : List (Nat × AV)} {t : Nat}, ¬ Keys U t → ∀ (σ : List AV), (setAll U σ).getD t .u = σ.getD t .u := fun {U t} ht σ => setAll_other U σ fun x hx e => ht ⟨x, hx, e⟩
  have hagU : Agr (Keys U) (setAll U σ) σ := ⟨by rw [setAll_length], fun t ht => (keyOut ht σ).symm, fun t ht d hd => by rw [keyOut ht]; exact hU.nr d hd t⟩
  obtain ⟨g1, g2⟩ := hV.move (Keys U) σ hagU lookU (fun d hd hu => dis d hu hd) (fun t ht d hd => hU.un t ht d)
  have hnrV : ∀ d, Keys V d → ∀ t, ¬ Keys V t → nrA d (σ.getD t .u) = true := by
    intro d hd t ht
    by_cases hu : Keys U t
    · exact hU.un t hu d
    · have := hV.nr d hd t
      rwa [keyOut hu] at this
  have hagV : Agr (Keys V) σ (setAll V σ) := ⟨by rw [setAll_length], fun t ht => keyOut ht σ, fun t ht d hd => hnrV d hd t ht⟩
  have hVU : ∀ t, Keys V t → ∀ d, Keys U d → nrA d ((setAll V σ).getD t .u) = true := by
    intro t ht d hd
    have key : ∀ (l : List (Nat × AV)) (σ : List AV), (∀ x ∈ l, nrA d x.2 = true) → nrA d (σ.getD t .u) = true → nrA d ((setAll l σ).getD t .u) = true := by
      intro l
      induction l with
      | nil => intro σ _ h; exact h
      | cons x l ih =>
        intro σ hx hs
        obtain ⟨i, v⟩ := x
        simp only [setAll]
        refine ih _ (fun y hy => hx y (List.mem_cons_of_mem _ hy)) ?_
        rw [getD_set]
        split
        · exact hx (i, v) List.mem_cons_self
        · exact hs
    exact key V σ (fun x hx => g2 x hx d hd) (hU.nr d hd t)
  obtain ⟨g3, _⟩ := hU.move (Keys V) (setAll V σ) hagV lookV (fun d hd hv => dis d hd hv) hVU
  refine ⟨_, g1 solo, ?_⟩
  rw [g3 solo', setAll_comm]
  intro x hx y hy e
  exact dis x.1 ⟨x, hx, rfl⟩ ⟨y, hy, e.symm⟩
theorem evalO_own {s : Nat} {e : TypeId} {L L' : List Sc} (hs : σ.getD s .u = .own e L) (x : Operand) : evalO nv (σ.set s (.own e L')) x = evalO nv σ x := by
  cases x with
  | tmp t =>
    simp only [evalO]
    by_cases ht : nv + t = s
    · subst ht
      rw [hs, getD_set_same _ _ _ _ (lt_of_getD hs (by simp))]
    · rw [getD_set_other _ _ _ _ _ (Ne.symm ht)]
  | _ => rfl
theorem idx_same {σ' : List AV} {t : TypeId} {x i : Operand} {k : AV → Option R} (he : ∀ y, evalO nv σ' y = evalO nv σ y) (hl : ∀ s, (ownAny σ' s).map (fun q => q.2.length) = (ownAny σ s).map fun q => q.2.length) :
    valOp E cl H nv σ (.indexAddr t x i) k = valOp E cl H nv σ' (.indexAddr t x i) k := by
  simp only [valOp, he]
  cases look E.sl t with
  | none =>
    cases evalO nv σ x with
    | p y =>
      cases y with
      | _ => cases evalO nv σ i with
        | p z => cases z with
          | sc z => cases z <;> rfl
          | _ => rfl
        | _ => rfl
    | _ => cases evalO nv σ i with
      | p z => cases z with
        | sc z => cases z <;> rfl
        | _ => rfl
      | _ => rfl
  | some q =>
    obtain ⟨q1, q2⟩ := q
    cases evalO nv σ x with
    | p y =>
      cases y with
      | al s =>
        cases evalO nv σ i with
        | p z =>
          cases z with
          | sc z =>
            cases z with
            | n kd z =>
              have h1 := hl s
              show (match ownAny σ s with | some (_, L) => br (inRange z L.length) (k (.ep s z.toNat)) none | none => none) = (match ownAny σ' s with | some (_, L) => br (inRange z L.length) (k (.ep s z.toNat)) none | none => none)
              cases h2 : ownAny σ s with
              | none =>
                cases h3 : ownAny σ' s with
                | none => rfl
                | some q' => rw [h2, h3] at h1; simp at h1
              | some q0 =>
                cases h3 : ownAny σ' s with
                | none => rw [h2, h3] at h1; simp at h1
                | some q' =>
                  rw [h2, h3] at h1
                  simp only [Option.map_some, Option.some.injEq] at h1
                  show br (inRange z q0.2.length) _ _ = br (inRange z q'.2.length) _ _
                  rw [h1]
            | _ => rfl
          | _ => rfl
        | _ => rfl
      | _ => cases evalO nv σ i with
        | p z => cases z with
          | sc z => cases z <;> rfl
          | _ => rfl
        | _ => rfl
    | _ => cases evalO nv σ i with
      | p z => cases z with
        | sc z => cases z <;> rfl
        | _ => rfl
      | _ => rfl
theorem sto_form {σ1 : List AV} {t : TypeId} {p x : Operand} {s i : Nat} (hev : evalO F.nv σ p = .ep s i) (h : stepOp E cl H F σ none (.store t p x) some = some σ1) : ∃ e L y, ownOf σ s = some (e, L) ∧ σ1 = σ.set s (.own e (L.set i y)) ∧
    ∀ σ', evalO F.nv σ' p = .ep s i → evalO F.nv σ' x = evalO F.nv σ x → ownOf σ' s = some (e, L) → stepOp E cl H F σ' none (.store t p x) some = some (σ'.set s (.own e (L.set i y))) := by
  simp only [stepOp, hev] at h
  split at h
  · rename_i v hsc hx
    split at h
    case h_2 => cases h
    rename_i e L ho hyS
    split at h
    · cases h
    rename_i heN
    simp only [put, Option.some.injEq] at h
    exact ⟨e, L, v, ho, h.symm, fun σ' h1 h2 h3 => by simp only [stepOp, h1, hsc, h2, hx, h3, hyS, heN, put]⟩
  · rename_i hsc
    split at h
    case h_2 => cases h
    rename_i yz e L hls ho
    split at h
    case h_2 => cases h
    rename_i y heN hc
    simp only [put, Option.some.injEq] at h
    exact ⟨e, L, y, ho, h.symm, fun σ' h1 h2 h3 => by simp only [stepOp, h1, hsc, h2, h3, hls, heN, hc, put]⟩
  · cases h
theorem scBin_is {op : BinOp} {x y : Sc} {v : AV} (h : (scBin op x y fun z => some (AV.p (.sc z))) = some v) : ∃ z, v = .p (.sc z) ∧ True := by
  cases x <;> cases y <;> cases op <;> simp only [scBin] at h <;> first
    | (cases h; done)
    | (injection h with h; exact ⟨_, h.symm, trivial⟩)
    | (rcases br_some h with ⟨_, h⟩ | ⟨_, h⟩ <;> first | (cases h; done) | (injection h with h; exact ⟨_, h.symm, trivial⟩))
    | (split at h <;> first
        | (cases h; done)
        | (injection h with h; exact ⟨_, h.symm, trivial⟩)
        | (rcases br_some h with ⟨_, h⟩ | ⟨_, h⟩ <;> first | (cases h; done) | (injection h with h; exact ⟨_, h.symm, trivial⟩)))
theorem sto_comm {all : Array Oper} {oi oj : Oper} {σ1 σ2 : List AV} (hi : isSto oi = true) (hj : isLook oj = true) (hap : oi.apart all oj = true)
    (h1 : act E cl H F all false oi σ = some σ1) (h2 : act E cl H F all false oj σ1 = some σ2) (solo solo' : Bool) : ∃ σ1', act E cl H F all solo oj σ = some σ1' ∧ act E cl H F all solo' oi σ1' = some σ2 := by
  obtain ⟨p1, p2, p3⟩ := Oper.apart_spec hap
  unfold isSto at hi
  simp only [Bool.and_eq_true, Option.isNone_iff_eq_none] at hi
  obtain ⟨hid, hig, hio⟩ := hi
  split at hio
  case h_2 => cases hio
  rename_i t p x hiop
  unfold isLook at hj
  simp only [Bool.and_eq_true] at hj
  obtain ⟨hjd, hjo⟩ := hj
  obtain ⟨d, hjd⟩ := Option.isSome_iff_exists.1 hjd
  have hkv : kindV H F oj.dst oj.op = true := by
    split at hjo
    · rename_i y hop; rw [hop]; rfl
    · rename_i a b c hop; rw [hop]; rfl
    · rename_i b1 b2 b3 b4 b5 hop; rw [hop]; rfl
    · cases hjo
  have hkv : ∀ σ, (kindV H F oj.dst oj.op && dynV F σ oj.op) = true := fun σ => by
    rw [hkv]
    split at hjo
    · rename_i y hop; rw [hop]; rfl
    · rename_i a b c hop; rw [hop]; rfl
    · rename_i b1 b2 b3 b4 b5 hop; rw [hop]; rfl
    · cases hjo
  have wi : ∀ σ, wantA F all σ oi = some true := fun σ => by simp [wantA, hig]
  have sto : ∀ (σ : List AV) (solo : Bool), act E cl H F all solo oi σ = match solo || (appD F σ none (.store t p x) || stoD F σ none (.store t p x)) with
      | true => stepOp E cl H F σ none (.store t p x) some
      | false => none := by
    intro σ solo
    rw [act_want, wi]
    simp only [oneOp, stepD, hid, hiop, kindV, Bool.false_and]
    cases (solo || (appD F σ none (.store t p x) || stoD F σ none (.store t p x))) <;> rfl
  have h1' := h1
  rw [sto] at h1'
  simp only [Bool.false_or] at h1'
  split at h1'
  case h_2 => cases h1'
  rename_i hsto
  have hsto : stoD F σ none (.store t p x) = true := by simpa [appD] using hsto
  have hep : ∃ s i, evalO F.nv σ p = .ep s i := by
    simp only [stoD] at hsto
    split at hsto
    · rename_i s i he; exact ⟨s, i, he⟩
    · cases hsto
  obtain ⟨s, i, hev⟩ := hep
  obtain ⟨e, L, v, ho, rfl, hform⟩ := sto_form hev h1'
  have hs := ownOf_eq ho
  have hls := lt_of_getD hs (by simp)
  rw [act_want] at h2
  have hw0 : ∀ {b : Bool}, wantA F all (σ.set s (.own e (L.set i v))) oj = some b → wantA F all σ oj = some b := by
    intro b hw
    unfold wantA at hw ⊢
    cases hg : oj.guard with
    | none => rw [hg] at hw; exact hw
    | some q =>
      obtain ⟨j, want⟩ := q
      rw [hg] at hw
      simp only [] at hw ⊢
      cases hd : (all[j]?).bind (·.dst) with
      | none => rw [hd] at hw; cases hw
      | some g =>
        rw [hd] at hw
        simp only [] at hw ⊢
        by_cases hgs : F.nv + g = s
        · rw [hgs, getD_set_same _ _ _ _ hls] at hw; cases hw
        · rw [getD_set_other _ _ _ _ _ (Ne.symm hgs)] at hw; exact hw
  have hap0 : apartA (σ.set s (.own e (L.set i v))) (F.nv + d) = true → F.nv + d ≠ s ∧ apartA σ (F.nv + d) = true := by
    intro ha
    obtain ⟨a1, a2⟩ := apart_nr ha
    unfold apartA at ha ⊢
    simp only [Bool.and_eq_true] at ha ⊢
    have hne : F.nv + d ≠ s := fun e' => by rw [e', getD_set_same _ _ _ _ hls] at ha; cases ha.1
    refine ⟨hne, by rw [getD_set_other _ _ _ _ _ (Ne.symm hne)] at ha; exact ha.1, ?_⟩
    rw [noRef_iff]
    intro q
    by_cases hq : q = s
    · subst hq; rw [hs]; rfl
    · have := a1 q; rwa [getD_set_other _ _ _ _ _ (Ne.symm hq)] at this
  have behind : ∀ (v' : AV), F.nv + d ≠ s → ∀ solo', act E cl H F all solo' oi (σ.set (F.nv + d) v') = some ((σ.set s (.own e (L.set i v))).set (F.nv + d) v') := by
    intro v' hne solo'
    have ev : ∀ y : Operand, Operand.tmp d ≠ y → evalO F.nv (σ.set (F.nv + d) v') y = evalO F.nv σ y := by
      intro y hy
      cases y with
      | tmp q =>
        simp only [evalO]
        rw [getD_set_other _ _ _ _ _ (fun e' => hy (by rw [Nat.add_left_cancel e']))]
      | _ => rfl
    have hp' : evalO F.nv (σ.set (F.nv + d) v') p = .ep s i := by
      rw [ev p fun e' => p3 d hjd (looks_op (by rw [hiop]; simp [Op.operands, e'])), hev]
    have hx' : evalO F.nv (σ.set (F.nv + d) v') x = evalO F.nv σ x := ev x fun e' => p3 d hjd (looks_op (by rw [hiop]; simp [Op.operands, e']))
    have ho' : ownOf (σ.set (F.nv + d) v') s = some (e, L) := by
      unfold ownOf
      rw [getD_set_other _ _ _ _ _ hne, hs]
      simp only [ownOf_dp ho]
    have hst : stoD F (σ.set (F.nv + d) v') none (.store t p x) = true := by simp only [stoD, hp']
    rw [sto, hst]
    simp only [Bool.or_true]
    rw [hform _ hp' hx' ho', List.set_comm _ _ hne]
  split at h2
  · rename_i hw
    simp only [oneOp, stepD] at h2
    rw [hkv, hjd] at h2
    simp only [] at h2
    split at h2
    case h_2 => cases h2
    rename_i ha
    obtain ⟨hne, ha'⟩ := hap0 ha
    obtain ⟨v', hv', h2⟩ := valOp_some h2
    split at h2
    case h_2 => cases h2
    rename_i hn
    injection h2 with h2
    subst h2
    have hv0 : valOp E cl H F.nv σ oj.op some = some v' := by
      split at hjo
      · rename_i y hop
        rw [hop] at hv' ⊢
        simp only [valOp, evalO_own hs] at hv' ⊢
        exact hv'
      · rename_i a b c hop
        rw [hop] at hv' ⊢
        rw [← hv']
        refine idx_same (fun y => evalO_own hs y) fun s' => ?_
        by_cases hss : s' = s
        · subst hss
          have e1 : ownAny (σ.set s' (.own e (L.set i v))) s' = some (e, L.set i v) := by unfold ownAny; rw [getD_set_same _ _ _ _ hls]
          rw [e1, show ownAny σ s' = some (e, L) from by unfold ownAny; rw [hs]]
          simp
        · have e1 : ownAny (σ.set s (.own e (L.set i v))) s' = ownAny σ s' := by unfold ownAny; rw [getD_set_other _ _ _ _ _ (Ne.symm hss)]
          rw [e1]
      · rename_i b1 b2 b3 b4 b5 hop
        rw [hop] at hv' ⊢
        simp only [valOp, evalO_own hs] at hv' ⊢
        exact hv'
      · cases hjo
    refine ⟨σ.set (F.nv + d) v', ?_, behind v' hne solo'⟩
    rw [act_want, hw0 hw]
    simp only [oneOp, stepD]
    rw [hkv, hjd]
    simp only [ha']
    rw [valOp_of hv0]
    simp only [hn]
  · rename_i hw
    simp only [skipOp, hjd] at h2
    split at h2
    case h_2 => cases h2
    rename_i ha
    obtain ⟨hne, ha'⟩ := hap0 ha
    injection h2 with h2
    subst h2
    refine ⟨σ.set (F.nv + d) .und, ?_, behind .und hne solo'⟩
    rw [act_want, hw0 hw]
    simp only [skipOp, hjd, ha']
  · cases h2
theorem look_comm {all : Array Oper} {oi oj : Oper} {σ1 σ2 : List AV} (hi : isLook oi = true) (hj : isSto oj = true) (hap : oi.apart all oj = true)
    (h1 : act E cl H F all false oi σ = some σ1) (h2 : act E cl H F all false oj σ1 = some σ2) (solo solo' : Bool) : ∃ σ1', act E cl H F all solo oj σ = some σ1' ∧ act E cl H F all solo' oi σ1' = some σ2 := by
  obtain ⟨p1, p2, p3⟩ := Oper.apart_spec hap
  unfold isSto at hj
  simp only [Bool.and_eq_true, Option.isNone_iff_eq_none] at hj
  obtain ⟨hjd, hjg, hjo⟩ := hj
  split at hjo
  case h_2 => cases hjo
  rename_i t p x hjop
  unfold isLook at hi
  simp only [Bool.and_eq_true] at hi
  obtain ⟨hid, hio⟩ := hi
  obtain ⟨d, hid⟩ := Option.isSome_iff_exists.1 hid
  have hkv : ∀ σ, (kindV H F oi.dst oi.op && dynV F σ oi.op) = true := fun σ => by
    split at hio
    · rename_i y hop; rw [hop]; rfl
    · rename_i a b c hop; rw [hop]; rfl
    · rename_i b1 b2 b3 b4 b5 hop; rw [hop]; rfl
    · cases hio
  have wj : ∀ σ, wantA F all σ oj = some true := fun σ => by simp [wantA, hjg]
  have sto : ∀ (σ : List AV) (solo : Bool), act E cl H F all solo oj σ = match solo || (appD F σ none (.store t p x) || stoD F σ none (.store t p x)) with
      | true => stepOp E cl H F σ none (.store t p x) some
      | false => none := by
    intro σ solo
    rw [act_want, wj]
    simp only [oneOp, stepD, hjd, hjop, kindV, Bool.false_and]
    cases (solo || (appD F σ none (.store t p x) || stoD F σ none (.store t p x))) <;> rfl
  have hfirst : ∃ v', σ1 = σ.set (F.nv + d) v' ∧ apartA σ (F.nv + d) = true ∧ (∀ e L, v' ≠ .own e L) ∧
      ∀ {s : Nat} {e : TypeId} {L L' : List Sc}, σ.getD s .u = .own e L → F.nv + d ≠ s → L'.length = L.length → ∀ solo', act E cl H F all solo' oi (σ.set s (.own e L')) = some ((σ.set s (.own e L')).set (F.nv + d) v') := by
    have hap1 : ∀ {s : Nat} {e : TypeId} {L L' : List Sc}, σ.getD s .u = .own e L → F.nv + d ≠ s → apartA σ (F.nv + d) = true → apartA (σ.set s (.own e L')) (F.nv + d) = true := by
      intro s e L L' hs hne ha
      obtain ⟨a1, a2⟩ := apart_nr ha
      unfold apartA at ha ⊢
      simp only [Bool.and_eq_true] at ha ⊢
      refine ⟨by rw [getD_set_other _ _ _ _ _ (Ne.symm hne)]; exact ha.1, ?_⟩
      rw [noRef_iff]
      intro q
      by_cases hq : q = s
      · subst hq; rw [getD_set_same _ _ _ _ (lt_of_getD hs (by simp))]; rfl
      · rw [getD_set_other _ _ _ _ _ (Ne.symm hq)]; exact a1 q
    have hw1 : ∀ {b : Bool} {s : Nat} {e : TypeId} {L L' : List Sc}, σ.getD s .u = .own e L → wantA F all σ oi = some b → wantA F all (σ.set s (.own e L')) oi = some b := by
      intro b s e L L' hs hw
      unfold wantA at hw ⊢
      cases hg : oi.guard with
      | none => rw [hg] at hw; exact hw
      | some q =>
        obtain ⟨j, want⟩ := q
        rw [hg] at hw
        simp only [] at hw ⊢
        cases hd : (all[j]?).bind (·.dst) with
        | none => rw [hd] at hw; cases hw
        | some g =>
          rw [hd] at hw
          simp only [] at hw ⊢
          by_cases hgs : F.nv + g = s
          · rw [hgs, hs] at hw; cases hw
          · rw [getD_set_other _ _ _ _ _ (Ne.symm hgs)]; exact hw
    rw [act_want] at h1
    split at h1
    · rename_i hw
      simp only [oneOp, stepD] at h1
      rw [hkv, hid] at h1
      simp only [] at h1
      split at h1
      case h_2 => cases h1
      rename_i ha
      obtain ⟨v', hv', h1⟩ := valOp_some h1
      split at h1
      case h_2 => cases h1
      rename_i hn
      injection h1 with h1
      refine ⟨v', h1.symm, ha, ?_, fun {s e L L'} hs hne hlen solo' => ?_⟩
      · intro e L he
        split at hio
        · rename_i y hop
          rw [hop] at hv'
          simp only [valOp, Option.some.injEq] at hv'
          rw [he] at hv'
          cases y with
          | tmp q =>
            simp only [evalO] at hv'
            split at hv'
            · cases hv'
            · rename_i hno; exact hno _ _ hv'
          | const z =>
            simp only [evalO] at hv'
            unfold constAV at hv'
            split at hv' <;> cases hv'
          | _ => simp [evalO] at hv'
        · rename_i a b c hop
          rw [hop] at hv'
          subst he
          simp only [valOp] at hv'
          (repeat' split at hv') <;> first | (cases hv'; done) | (rcases br_some hv' with ⟨_, hv'⟩ | ⟨_, hv'⟩ <;> cases hv')
        · rename_i b1 b2 b3 b4 b5 hop
          rw [hop] at hv'
          subst he
          simp only [valOp] at hv'
          split at hv'
          · split at hv'
            · obtain ⟨z, hz, _⟩ := scBin_is hv'
              cases hz
            · cases hv'
          · cases hv'
        · cases hio
      · have hv0 : valOp E cl H F.nv (σ.set s (.own e L')) oi.op some = some v' := by
          split at hio
          · rename_i y hop
            rw [hop] at hv' ⊢
            simp only [valOp, evalO_own hs] at hv' ⊢
            exact hv'
          · rename_i a b c hop
            rw [hop] at hv' ⊢
            rw [← hv']
            refine (idx_same (fun y => evalO_own hs y) fun s' => ?_).symm
            by_cases hss : s' = s
            · subst hss
              have e1 : ownAny (σ.set s' (.own e L')) s' = some (e, L') := by unfold ownAny; rw [getD_set_same _ _ _ _ (lt_of_getD hs (by simp))]
              have e2 : ownAny σ s' = some (e, L) := by unfold ownAny; rw [hs]
              rw [e1, e2]
              simp [hlen]
            · have e1 : ownAny (σ.set s (.own e L')) s' = ownAny σ s' := by unfold ownAny; rw [getD_set_other _ _ _ _ _ (Ne.symm hss)]
              rw [e1]
          · rename_i b1 b2 b3 b4 b5 hop
            rw [hop] at hv' ⊢
            simp only [valOp, evalO_own hs] at hv' ⊢
            exact hv'
          · cases hio
        rw [act_want, hw1 hs hw]
        simp only [oneOp, stepD]
        rw [hkv, hid]
        simp only [hap1 hs hne ha]
        rw [valOp_of hv0]
        simp only [hn]
    · rename_i hw
      simp only [skipOp, hid] at h1
      split at h1
      case h_2 => cases h1
      rename_i ha
      injection h1 with h1
      refine ⟨.und, h1.symm, ha, by simp, fun {s e L L'} hs hne hlen solo' => ?_⟩
      rw [act_want, hw1 hs hw]
      simp only [skipOp, hid, hap1 hs hne ha]
    · cases h1
  obtain ⟨v', rfl, ha, hno, hback⟩ := hfirst
  rw [sto] at h2
  simp only [Bool.false_or] at h2
  split at h2
  case h_2 => cases h2
  rename_i hsto
  have hsto : stoD F (σ.set (F.nv + d) v') none (.store t p x) = true := by simpa [appD] using hsto
  have ev : ∀ y : Operand, Operand.tmp d ≠ y → evalO F.nv (σ.set (F.nv + d) v') y = evalO F.nv σ y := by
    intro y hy
    cases y with
    | tmp q =>
      simp only [evalO]
      rw [getD_set_other _ _ _ _ _ (fun e' => hy (by rw [Nat.add_left_cancel e']))]
    | _ => rfl
  have evp : evalO F.nv (σ.set (F.nv + d) v') p = evalO F.nv σ p := ev p fun e' => (p1 d hid) (looks_op (by rw [hjop]; simp [Op.operands, e']))
  have evx : evalO F.nv (σ.set (F.nv + d) v') x = evalO F.nv σ x := ev x fun e' => (p1 d hid) (looks_op (by rw [hjop]; simp [Op.operands, e']))
  have hep : ∃ s i, evalO F.nv σ p = .ep s i := by
    simp only [stoD, evp] at hsto
    split at hsto
    · rename_i s i he; exact ⟨s, i, he⟩
    · cases hsto
  obtain ⟨s, i, hev⟩ := hep
  obtain ⟨e, L, v, ho, rfl, hform⟩ := sto_form (evp.trans hev) h2
  have hs1 := ownOf_eq ho
  have hne : F.nv + d ≠ s := fun e' => by
    subst e'
    have hl := lt_of_getD hs1 (by simp)
    rw [List.length_set] at hl
    rw [getD_set_same _ _ _ _ hl] at hs1
    exact hno _ _ hs1
  rw [getD_set_other _ _ _ _ _ hne] at hs1
  refine ⟨σ.set s (.own e (L.set i v)), ?_, ?_⟩
  · have ho' : ownOf σ s = some (e, L) := by unfold ownOf; rw [hs1]; simp only [ownOf_dp ho]
    have hst : stoD F σ none (.store t p x) = true := by simp only [stoD, hev]
    rw [sto, hst]
    simp only [Bool.or_true]
    exact hform σ hev evx.symm ho'
  · rw [hback hs1 hne (by simp) solo', List.set_comm _ _ hne]
end
end Go.Proofs.YtlnhommmmajllaaGreat.Ev
