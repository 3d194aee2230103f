/-
  VCall: calls that lend slots.
-/
import Derived.Test.YtlnhommmmajllaaGreatVStep
set_option linter.unusedVariables false
namespace Go.Proofs.YtlnhommmmajllaaGreat.Ev
open Go Go.RowKit
theorem isIn_iff {l : List Nat} {x : Nat} : isIn l x = true ↔ x ∈ l := by
  induction l with
  | nil => simp [isIn]
  | cons y r ih =>
    unfold isIn
    split
    · rename_i h; rw [nbeq] at h; simp [h]
    · rename_i h
      have : y ≠ x := fun e => by rw [nbeq.2 e] at h; cases h
      rw [ih]; simp [Ne.symm this]
theorem nodupB_iff : ∀ {l : List Nat}, nodupB l = true → l.Nodup
  | [], _ => List.nodup_nil
  | x :: r, h => by
    simp only [nodupB, Bool.and_eq_true, Bool.not_eq_true'] at h
    rw [List.nodup_cons]
    exact ⟨fun hx => (by rw [isIn_iff.2 hx] at h; cases h.1), nodupB_iff h.2⟩
theorem idxOf_some : ∀ {l : List Nat} {j s i : Nat}, idxOf l j s = some i → j ≤ i ∧ l[i - j]? = some s
  | [], _, _, _, h => by cases h
  | x :: r, j, s, i, h => by
    unfold idxOf at h
    split at h
    · rename_i hb
      injection h with h
      subst h
      exact ⟨Nat.le_refl _, by simp [nbeq.1 hb]⟩
    · have := idxOf_some h
      refine ⟨by omega, ?_⟩
      rw [show i - j = (i - (j + 1)) + 1 by omega, List.getElem?_cons_succ]
      exact this.2
theorem idxOf_none : ∀ {l : List Nat} {j s : Nat}, idxOf l j s = none → s ∉ l
  | [], _, _, _ => by simp
  | x :: r, j, s, h => by
    unfold idxOf at h
    split at h
    · cases h
    · rename_i hb
      have : x ≠ s := fun e => by rw [nbeq.2 e] at hb; cases hb
      simp [Ne.symm this, idxOf_none h]
theorem idxOf_at {l : List Nat} (hn : l.Nodup) {i s : Nat} (h : l[i]? = some s) : idxOf l 0 s = some i := by
  cases hx : idxOf l 0 s with
  | none => exact absurd (List.mem_of_getElem? h) (idxOf_none hx)
  | some i' =>
    have h1 := (idxOf_some hx).2
    rw [Nat.sub_zero] at h1
    congr 1
    have hl := (List.getElem?_eq_some_iff.1 h).1
    have hl' := (List.getElem?_eq_some_iff.1 h1).1
    exact (List.getElem?_inj hl' hn).1 (h1.trans h.symm)
theorem run?_spec {ρ : Nat → Option Nat} {k j : Nat} : ∀ {n : Nat}, run? ρ k j n = true → ∀ i, i < n → ρ (k + i) = some (j + i)
  | n + 1, h, i, hi => by
    simp only [run?, Bool.and_eq_true] at h
    by_cases hin : i = n
    · subst hin
      have := h.1
      split at this
      · rename_i q hq; rw [hq, nbeq.1 this]
      · cases this
    · exact run?_spec h.2 i (by omega)
section
variable {M M' : Mem} {w w' : World} {σ σ' : List AV}
structure Ren (M M' : Mem) (w w' : World) (σ σ' : List AV) (ρ : Nat → Option Nat) (soft : Prop) (pts : Nat × Nat → Prop) : Prop where
  ref : ∀ s j, ρ s = some j → rf σ s = true → rf σ' j = true ∧ M'.tm j = M.tm s
  ptr : ∀ k j n b, pts (k, n) → ρ k = some j → (∀ i, i < n → ρ (k + i) = some (j + i)) → 0 < n → M.ow b = some (.c k n) → (∀ i, i < n → M.loc (k + i) = some ⟨b, i, none⟩) → M'.ow b = some (.c j n) ∧ ∀ i, i < n → M'.loc (j + i) = some ⟨b, i, none⟩
  fz : soft → ∀ b, b < w.heap.size → M.fz b → w'.heap[b]? = w.heap[b]? ∧ M'.fz b
  fr : soft → ∀ b, b < w.heap.size → M.fn b → M.ow b = none → w'.heap[b]? = w.heap[b]? ∧ M'.fn b ∧ M'.ow b = none
theorem GP.ren {ρ : Nat → Option Nat} {soft : Prop} {pts : Nat × Nat → Prop} (hr : Ren M M' w w' σ σ' ρ soft pts) {y y' : Pv} {x : Value} (hs : softP y = true → soft) (hp : ∀ q ∈ ptsP y, pts q) (h : GP M w σ y x) (hy : renP ρ y = some y') : GP M' w' σ' y' x := by
  cases y with
  | sc z => simp only [renP, Option.some.injEq] at hy; subst hy; exact h
  | sl L => simp only [renP, Option.some.injEq] at hy; subst hy; obtain ⟨A, c, h1, h2, h3⟩ := h; exact ⟨A, c, h1, h2, h3.keep (hr.fz (hs rfl))⟩
  | gr L => simp only [renP, Option.some.injEq] at hy; subst hy; obtain ⟨A, c, h1, h2, h3⟩ := h; exact ⟨A, c, h1, h2, h3.keep (hr.fz (hs rfl))⟩
  | ev z => simp only [renP, Option.some.injEq] at hy; subst hy; obtain ⟨ad, h1, h2, h3⟩ := h; have := hr.fz (hs rfl) _ (cell_lt h3) h2; exact ⟨ad, h1, this.2, cell_same h3 this.1⟩
  | el L => simp only [renP, Option.some.injEq] at hy; subst hy; obtain ⟨ad, A, c, h1, h2, h3, h4, h5⟩ := h; have := hr.fz (hs rfl) _ (cell_lt h3) h2; exact ⟨ad, A, c, h1, this.2, cell_same h3 this.1, h4, h5.keep (hr.fz (hs rfl))⟩
  | al s =>
    simp only [renP, Option.map_eq_some_iff] at hy
    obtain ⟨j, hj, rfl⟩ := hy
    have := hr.ref s j hj h.1
    exact ⟨this.1, h.2.trans this.2.symm⟩
  | go s =>
    simp only [renP, Option.map_eq_some_iff] at hy
    obtain ⟨j, hj, rfl⟩ := hy
    have := hr.ref s j hj h.1
    exact ⟨this.1, by rw [h.2, this.2]⟩
  | pt k n =>
    simp only [renP] at hy
    split at hy
    · rename_i j hj
      split at hy
      · rename_i hrun
        simp only [Option.some.injEq] at hy
        subst hy
        obtain ⟨b, h1, h2, h3, h4⟩ := h
        obtain ⟨g1, g2⟩ := hr.ptr k j n b (hp (k, n) (by simp [ptsP])) hj (run?_spec hrun) h2 h3 h4
        exact ⟨b, h1, h2, g1, g2⟩
      · cases hy
    · cases hy
  | fp k => simp [renP] at hy
  | st fs => simp only [renP, Option.some.injEq] at hy; subst hy; obtain ⟨xs, h1, h2, h3⟩ := h; exact ⟨xs, h1, h2, fun i f y hf hy => (h3 i f y hf hy).keep (hr.fz (hs rfl))⟩
  | ll LL => simp only [renP, Option.some.injEq] at hy; subst hy; obtain ⟨A, c, h1, h2, h3⟩ := h; exact ⟨A, c, h1, h2, h3.keep (hr.fz (hs rfl))⟩
  | nl d L => simp only [renP, Option.some.injEq] at hy; subst hy; obtain ⟨A, c, h1, h2, h3, h4⟩ := h; exact ⟨A, c, h1, h2, h3.keep (hr.fz (hs rfl)), h4⟩
  | en d L => simp only [renP, Option.some.injEq] at hy; subst hy; obtain ⟨ad, A, c, h1, h2, h3, h4, h5, h6⟩ := h; have := hr.fz (hs rfl) _ (cell_lt h3) h2; exact ⟨ad, A, c, h1, this.2, cell_same h3 this.1, h4, h5.keep (hr.fz (hs rfl)), h6⟩
theorem renPs_spec {ρ : Nat → Option Nat} : ∀ {fs gs : List Pv}, renPs ρ fs = some gs → gs.length = fs.length ∧ ∀ (i : Nat) y y', fs[i]? = some y → gs[i]? = some y' → renP ρ y = some y'
  | [], gs, h => by simp only [renPs, Option.some.injEq] at h; subst h; exact ⟨rfl, fun i y y' hy => by simp at hy⟩
  | x :: r, gs, h => by
    unfold renPs at h
    split at h
    · rename_i y ys h1 h2
      simp only [Option.some.injEq] at h
      subst h
      obtain ⟨h3, h4⟩ := renPs_spec h2
      refine ⟨by simp [h3], fun i z z' hz hz' => ?_⟩
      cases i with
      | zero => simp only [List.getElem?_cons_zero, Option.some.injEq] at hz hz'; subst hz hz'; exact h1
      | succ i => exact h4 i z z' (by simpa using hz) (by simpa using hz')
    · cases h
theorem GPs.ren {ρ : Nat → Option Nat} {soft : Prop} {pts : Nat × Nat → Prop} (hr : Ren M M' w w' σ σ' ρ soft pts) {fs gs : List Pv} {xs : List Value} (hs : fs.any softP = true → soft) (hp : ∀ q ∈ fs.flatMap ptsP, pts q) (h : GPs M w σ fs xs) (hy : renPs ρ fs = some gs) : GPs M' w' σ' gs xs := by
  obtain ⟨h1, h2⟩ := renPs_spec hy
  refine ⟨h.1.trans h1.symm, fun i y z hy' hz => ?_⟩
  have hlt : i < fs.length := by rw [← h1]; exact (List.getElem?_eq_some_iff.1 hy').1
  have hf := List.getElem?_eq_getElem hlt
  exact GP.ren hr (fun hsf => hs (List.any_eq_true.2 ⟨_, List.mem_of_getElem? hf, hsf⟩)) (fun q hq => hp q (List.mem_flatMap.2 ⟨_, List.mem_of_getElem? hf, hq⟩)) (h.2 i _ z hf hz) (h2 i _ y hf hy')
theorem GS.ren {ρ : Nat → Option Nat} {soft : Prop} {pts : Nat × Nat → Prop} (hr : Ren M M' w w' σ σ' ρ soft pts) {t t' : Nat} {v : AV} {x : Value} (hs : softA v = true → soft) (hp : ∀ q ∈ ptsA v, pts q)
    (ho : ∀ b p, b < w.heap.size → M.ow b = some (.r t p) → w'.heap[b]? = w.heap[b]? ∧ M'.ow b = some (.r t' p)) (h : GS M w σ t v x) : GS M' w' σ' t' (renA ρ v) x := by
  cases v with
  | u => trivial
  | mv => trivial
  | und => exact h
  | own e L => exact RowO.keep h ho (fun he => hr.fz (hs he))
  | fr e L =>
    have key : ∀ b, x.ownBlock = some b → w'.heap[b]? = w.heap[b]? ∧ M'.fn b ∧ M'.ow b = none := fun b hb => hr.fr (hs rfl) b (h.1.lt hb).2 (h.2 b hb).1 (h.2 b hb).2
    exact ⟨h.1.keep (fun b hb => (key b hb).1) (fun _ => hr.fz (hs rfl)), fun b hb => (key b hb).2⟩
  | p y =>
    simp only [renA]
    cases hy : renP ρ y with
    | none => trivial
    | some y' => exact GP.ren hr hs hp h hy
  | ep s i => trivial
  | tu fs =>
    simp only [renA]
    cases hy : renPs ρ fs with
    | none => trivial
    | some gs => obtain ⟨xs, h1, h2⟩ := h; exact ⟨xs, h1, h2.ren hr hs hp hy⟩
  | fn f cap =>
    simp only [renA]
    cases hy : renPs ρ cap with
    | none => trivial
    | some gs => obtain ⟨xs, h1, h2⟩ := h; exact ⟨xs, h1, h2.ren hr hs hp hy⟩
theorem GS.renN {ρ : Nat → Option Nat} {soft : Prop} {pts : Nat × Nat → Prop} (hr : Ren M M' w w' σ σ' ρ soft pts) {t t' : Nat} {v : AV} {x : Value} (hno : ∀ e L, v ≠ .own e L) (hs : softA v = true → soft) (hp : ∀ q ∈ ptsA v, pts q) (h : GS M w σ t v x) : GS M' w' σ' t' (renA ρ v) x := by
  cases v with
  | u => trivial
  | mv => trivial
  | und => exact h
  | own e L => exact absurd rfl (hno e L)
  | fr e L =>
    have key : ∀ b, x.ownBlock = some b → w'.heap[b]? = w.heap[b]? ∧ M'.fn b ∧ M'.ow b = none := fun b hb => hr.fr (hs rfl) b (h.1.lt hb).2 (h.2 b hb).1 (h.2 b hb).2
    exact ⟨h.1.keep (fun b hb => (key b hb).1) (fun _ => hr.fz (hs rfl)), fun b hb => (key b hb).2⟩
  | p y =>
    simp only [renA]
    cases hy : renP ρ y with
    | none => trivial
    | some y' => exact GP.ren hr hs hp h hy
  | ep s i => trivial
  | tu fs =>
    simp only [renA]
    cases hy : renPs ρ fs with
    | none => trivial
    | some gs => obtain ⟨xs, h1, h2⟩ := h; exact ⟨xs, h1, h2.ren hr hs hp hy⟩
  | fn f cap =>
    simp only [renA]
    cases hy : renPs ρ cap with
    | none => trivial
    | some gs => obtain ⟨xs, h1, h2⟩ := h; exact ⟨xs, h1, h2.ren hr hs hp hy⟩
theorem renA_refable {ρ : Nat → Option Nat} {v : AV} (h : refable v = true) : renA ρ v = v := by cases v <;> simp_all [refable, renA]
theorem renA_own {ρ : Nat → Option Nat} {v : AV} (h : ∀ e L, v ≠ .own e L) : ∀ e L, renA ρ v ≠ .own e L := by
  cases v with
  | own e L => exact absurd rfl (h e L)
  | p y => simp only [renA]; cases renP ρ y <;> simp
  | tu fs => simp only [renA]; cases renPs ρ fs <;> simp
  | fn f cap => simp only [renA]; cases renPs ρ cap <;> simp
  | _ => simp [renA]
def bOw (M : Mem) (Λ : List Nat) (PG : List (Nat × Nat)) (b : Nat) : Option Key := match M.ow b with
  | some (.r s p) => (idxOf Λ 0 s).map fun j => .r j p
  | some (.c k n) => if (k, n) ∈ PG then (idxOf Λ 0 k).map fun j => .c j n else none
  | none => none
def bMem (M : Mem) (Λ : List Nat) (PG : List (Nat × Nat)) (soft : Bool) : Mem :=
  { tm := fun j => match Λ[j]? with
      | some s => M.tm s
      | none => undef
    loc := fun j => match Λ[j]? with
      | some s => if PG.any (inPts s) then M.loc s else none
      | none => none
    ow := bOw M Λ PG
    fo := fun b => soft = true → M.fo b ∧ (M.ow b = none ∨ bOw M Λ PG b ≠ none)
    fn := fun b => M.fn b ∧ (M.ow b = none ∨ bOw M Λ PG b ≠ none) }
theorem bOw_none {Λ : List Nat} {PG : List (Nat × Nat)} {b : Nat} (h : M.ow b = none) : bOw M Λ PG b = none := by simp [bOw, h]
theorem bOw_some {Λ : List Nat} {PG : List (Nat × Nat)} {b : Nat} {q : Key} (h : bOw M Λ PG b = some q) : ∃ q', M.ow b = some q' := by
  cases hq : M.ow b with
  | none => rw [bOw_none hq] at h; cases h
  | some q' => exact ⟨q', rfl⟩
theorem bOw_r {Λ : List Nat} {PG : List (Nat × Nat)} {b s j : Nat} {p : List Nat} (h : M.ow b = some (.r s p)) (hj : idxOf Λ 0 s = some j) : bOw M Λ PG b = some (.r j p) := by simp [bOw, h, hj]
theorem bOw_rn {Λ : List Nat} {PG : List (Nat × Nat)} {b s : Nat} {p : List Nat} (h : M.ow b = some (.r s p)) (hj : s ∉ Λ) : bOw M Λ PG b = none := by
  have : idxOf Λ 0 s = none := by
    cases hx : idxOf Λ 0 s with
    | none => rfl
    | some i => exact absurd (List.mem_of_getElem? (idxOf_some hx).2) hj
  simp [bOw, h, this]
theorem bOw_c {Λ : List Nat} {PG : List (Nat × Nat)} {b k n j : Nat} (h : M.ow b = some (.c k n)) (hp : (k, n) ∈ PG) (hj : idxOf Λ 0 k = some j) : bOw M Λ PG b = some (.c j n) := by simp [bOw, h, hj, hp]
theorem bOw_cn {Λ : List Nat} {PG : List (Nat × Nat)} {b k n : Nat} (h : M.ow b = some (.c k n)) (hp : (k, n) ∉ PG) : bOw M Λ PG b = none := by simp [bOw, h, hp]
def PGOk (M : Mem) (Λ : List Nat) (PG : List (Nat × Nat)) : Prop := ∀ k n, (k, n) ∈ PG → (∃ b, 0 < n ∧ M.ow b = some (.c k n) ∧ ∀ i, i < n → M.loc (k + i) = some ⟨b, i, none⟩) ∧ ∃ j, ∀ i, i < n → idxOf Λ 0 (k + i) = some (j + i)
theorem inPts_iff {s : Nat} {x : Nat × Nat} : inPts s x = true ↔ x.1 ≤ s ∧ s < x.1 + x.2 := by
  simp only [inPts, Bool.and_eq_true]
  constructor
  · intro h; exact ⟨Nat.le_of_ble_eq_true h.1, by have := h.2; rwa [Nat.blt_eq] at this⟩
  · intro h; exact ⟨Nat.ble_eq_true_of_le h.1, by rw [Nat.blt_eq]; exact h.2⟩
theorem PGOk.at {Λ : List Nat} {PG : List (Nat × Nat)} (h : PGOk M Λ PG) {s : Nat} (hs : PG.any (inPts s) = true) {ad : Addr} (hl : M.loc s = some ad) :
    ∃ k n j, (k, n) ∈ PG ∧ M.ow ad.block = some (.c k n) ∧ s = k + ad.off ∧ ad.off < n ∧ ad.spot = none ∧ (∀ i, i < n → idxOf Λ 0 (k + i) = some (j + i)) ∧ (∀ i, i < n → M.loc (k + i) = some ⟨ad.block, i, none⟩) := by
  obtain ⟨⟨k, n⟩, hm, hi⟩ := List.any_eq_true.1 hs
  rw [inPts_iff] at hi
  simp only at hi
  obtain ⟨⟨b, h1, h2, h3⟩, j, h4⟩ := h k n hm
  have h5 := h3 (s - k) (by omega)
  rw [show k + (s - k) = s by omega, hl] at h5
  injection h5 with h5
  subst h5
  exact ⟨k, n, j, hm, h2, by show s = k + (s - k); omega, by show s - k < n; omega, rfl, h4, h3⟩
theorem bRen (h : Core σ M w) {Λ : List Nat} {PG : List (Nat × Nat)} (hn : Λ.Nodup) (hP : PGOk M Λ PG) (soft : Bool) :
    Ren M (bMem M Λ PG soft) w w σ (Λ.map fun s => renA (idxOf Λ 0) (σ.getD s .u)) (idxOf Λ 0) True (fun q => q ∈ PG) := by
  refine ⟨fun s j hj hr => ?_, fun k j n b hp hj hc h0 hb hl => ?_, fun _ b hlt hf => ⟨rfl, fun _ => ⟨hf.1, .inl hf.2⟩, bOw_none hf.2⟩, fun _ b hlt h1 h2 => ⟨rfl, ⟨h1, .inl h2⟩, bOw_none h2⟩⟩
  · have hg := (idxOf_some hj).2
    rw [Nat.sub_zero] at hg
    refine ⟨?_, by simp [bMem, hg]⟩
    unfold rf at hr ⊢
    simp only [List.getD, List.getElem?_map, hg, Option.map_some, Option.getD_some]
    have : renA (idxOf Λ 0) (σ.getD s .u) = σ.getD s .u := renA_refable hr
    simp only [List.getD] at this
    rw [this]
    exact hr
  · refine ⟨bOw_c hb hp hj, fun i hi => ?_⟩
    have hg := (idxOf_some (hc i hi)).2
    rw [Nat.sub_zero] at hg
    show (match Λ[j + i]? with
      | some s => if PG.any (inPts s) then M.loc s else none
      | none => none) = _
    rw [hg]
    simp only
    rw [if_pos (List.any_eq_true.2 ⟨(k, n), hp, inPts_iff.2 ⟨by show k ≤ k + i; omega, by show k + i < k + n; omega⟩⟩)]
    exact hl i hi
theorem bCore (h : Core σ M w) {Λ : List Nat} {PG : List (Nat × Nat)} (hn : Λ.Nodup) (hP : PGOk M Λ PG) (hpts : ∀ s ∈ Λ, ∀ q ∈ ptsA (σ.getD s .u), q ∈ PG) (soft : Bool) :
    Core (Λ.map fun s => renA (idxOf Λ 0) (σ.getD s .u)) (bMem M Λ PG soft) w := by
  refine ⟨fun j => ?_, fun j ad hj => ?_, fun b q hb => ?_, fun b hb _ => ⟨h.sub b hb.1, hb.2⟩⟩
  · cases hg : Λ[j]? with
    | none =>
      have : (Λ.map fun s => renA (idxOf Λ 0) (σ.getD s .u)).getD j .u = .u := by simp only [List.getD, List.getElem?_map, hg]; rfl
      rw [this]; trivial
    | some s =>
      have e1 : (Λ.map fun s => renA (idxOf Λ 0) (σ.getD s .u)).getD j .u = renA (idxOf Λ 0) (σ.getD s .u) := by simp only [List.getD, List.getElem?_map, hg]; rfl
      have e2 : (bMem M Λ PG soft).tm j = M.tm s := by simp [bMem, hg]
      rw [e1, e2]
      exact GS.ren (bRen h hn hP soft) (fun _ => trivial) (hpts s (List.mem_of_getElem? hg)) (fun b p hb hp => ⟨rfl, bOw_r hp (idxOf_at hn hg)⟩) (h.slot s)
  · have hj : (match Λ[j]? with
      | some s => if PG.any (inPts s) then M.loc s else none
      | none => none) = some ad := hj
    cases hg : Λ[j]? with
    | none => rw [hg] at hj; cases hj
    | some s =>
      rw [hg] at hj
      simp only at hj
      split at hj
      · rename_i hs
        obtain ⟨c1, c2, c3, _⟩ := h.cell s ad hj
        obtain ⟨k, n, j0, g1, g2, g3, g4, g5, g6, g7⟩ := hP.at hs hj
        have h0 := g6 0 (by omega)
        have hoff := g6 ad.off g4
        rw [← g3, idxOf_at hn hg] at hoff
        injection hoff with hoff
        refine ⟨by rw [c1]; simp [bMem, hg], c2, c3, j0, n, bOw_c g2 g1 (by simpa using h0), hoff, g4⟩
      · cases hj
  · obtain ⟨q', hq'⟩ := bOw_some hb
    have := h.low b q' hq'
    exact ⟨this.1, this.2, .inr (by show bOw M Λ PG b ≠ none; have hb : bOw M Λ PG b = some q := hb; rw [hb]; simp)⟩
def backOw (M M' : Mem) (Λ Γ : List Nat) (PG : List (Nat × Nat)) (dst : Nat) (b : Nat) : Option Key := match M'.ow b with
  | some (.r j p) => some (.r (Γ.getD j dst) p)
  | some (.c j n) => some (.c (Λ.getD j dst) n)
  | none => match bOw M Λ PG b with
    | none => M.ow b
    | some _ => none
def backMem (M M' : Mem) (Λ Γ : List Nat) (PG : List (Nat × Nat)) (dst : Nat) (x : Value) : Mem :=
  { tm := fun t => match idxOf Γ 0 t with
      | some j => M'.tm j
      | none => if t = dst then x else M.tm t
    loc := M.loc
    ow := backOw M M' Λ Γ PG dst
    fo := M.fo
    fn := M.fn }
theorem hasVA_dropL {D : List Nat} {v : AV} {s : Nat} (h : hasVA s (dropL D v) = true) : s ∉ D ∧ dropL D v = v := by
  unfold dropL at h ⊢
  split at h
  · simp [hasVA] at h
  · rename_i hx
    refine ⟨fun hm => ?_, rfl⟩
    rw [List.any_eq_false] at hx
    exact hx s hm h
theorem dropL_cases (D : List Nat) (v : AV) : dropL D v = v ∨ dropL D v = .u := by
  unfold dropL
  split
  · exact .inr rfl
  · exact .inl rfl
theorem dropL_refable {D : List Nat} {v : AV} (h : refable v = true) : dropL D v = v := by
  unfold dropL
  have : (D.any fun d => hasVA d v) = false := by
    rw [List.any_eq_false]
    intro d _
    cases v <;> simp_all [refable, hasVA]
  rw [this]
section
variable {Λ G Γ : List Nat} {PG : List (Nat × Nat)} {soft : Bool} {out rs : List AV} {xs : List Value} {dst : Nat} {X : Value} {D' : List Nat}
theorem back_none (hpost : Post w (bMem M Λ PG soft) Λ.length w' M' out rs xs) {b : Nat} (hb : b < w.heap.size) (h0 : bOw M Λ PG b = none) : w'.heap[b]? = w.heap[b]? ∧ M'.ow b = none ∧ backOw M M' Λ Γ PG dst b = M.ow b := by
  have h1 : M'.ow b = none := by
    cases hq : M'.ow b with
    | none => rfl
    | some q =>
      rcases hpost.may b q hq with ⟨q', hq'⟩ | h2
      · have hq' : bOw M Λ PG b = some q' := hq'
        rw [h0] at hq'; cases hq'
      · omega
  exact ⟨hpost.kept.block b hb (fun ⟨q, hq⟩ => by have hq : bOw M Λ PG b = some q := hq; rw [h0] at hq; cases hq), h1, by simp [backOw, h1, h0]⟩
theorem back_ren (hpost : Post w (bMem M Λ PG soft) Λ.length w' M' out rs xs) (hΓ : Γ = Λ ++ G) (hn : Γ.Nodup) (look1 : ∀ j s, Γ[j]? = some s → σ'.getD s .u = renA (fun j => Γ[j]?) (out.getD j .u)) :
    Ren M' (backMem M M' Λ Γ PG dst X) w' w' out σ' (fun j => Γ[j]?) (soft = true) (fun _ => True) := by
  refine ⟨fun j s hj hr => ?_, fun j s n b _ hj hc h0 hb hl => ?_, fun hs b _ hf => ⟨rfl, ?_⟩, fun hs b _ h1 h2 => ⟨rfl, ?_⟩⟩
  · refine ⟨?_, ?_⟩
    · unfold rf at hr ⊢
      rw [look1 j s hj, renA_refable hr]
      exact hr
    · show (match idxOf Γ 0 s with
        | some j => M'.tm j
        | none => if s = dst then X else M.tm s) = _
      rw [idxOf_at hn hj]
  · have key : ∀ i, i < n → Λ[j + i]? = some (s + i) ∧ M.loc (s + i) = some ⟨b, i, none⟩ := fun i hi => by
      have h1 := hl i hi
      rw [hpost.loc] at h1
      have h1 : (match Λ[j + i]? with
        | some s => if PG.any (inPts s) then M.loc s else none
        | none => none) = some ⟨b, i, none⟩ := h1
      cases hg : Λ[j + i]? with
      | none => rw [hg] at h1; cases h1
      | some s' =>
        rw [hg] at h1
        simp only at h1
        have h2 := hc i hi
        simp only [hΓ] at h2
        rw [List.getElem?_append_left (List.getElem?_eq_some_iff.1 hg).1, hg] at h2
        injection h2 with h2
        subst h2
        split at h1
        · exact ⟨rfl, h1⟩
        · cases h1
    refine ⟨?_, fun i hi => (key i hi).2⟩
    have h2 := (key 0 h0).1
    rw [Nat.add_zero, Nat.add_zero] at h2
    show backOw M M' Λ Γ PG dst b = _
    simp [backOw, hb, List.getD, h2]
  · have h1 : soft = true → M.fo b ∧ (M.ow b = none ∨ bOw M Λ PG b ≠ none) := by have := hf.1; rw [hpost.fo] at this; exact this
    refine ⟨(h1 hs).1, ?_⟩
    show backOw M M' Λ Γ PG dst b = none
    have h2 : M'.ow b = none := hf.2
    simp only [backOw, h2]
    rcases (h1 hs).2 with h3 | h3
    · rw [bOw_none h3]; exact h3
    · cases hq : bOw M Λ PG b with
      | none => exact absurd hq h3
      | some q => rfl
  · have h3 : M.fn b ∧ (M.ow b = none ∨ bOw M Λ PG b ≠ none) := hpost.fn b h1
    refine ⟨h3.1, ?_⟩
    show backOw M M' Λ Γ PG dst b = none
    simp only [backOw, h2]
    rcases h3.2 with h4 | h4
    · rw [bOw_none h4]; exact h4
    · cases hq : bOw M Λ PG b with
      | none => exact absurd hq h4
      | some q => rfl
theorem Core.back (h : Core σ M w) (hP : PGOk M Λ PG) (hpost : Post w (bMem M Λ PG soft) Λ.length w' M' out rs xs) (hsoft : soft = true ∨ out.any softA = false) (hΓ : Γ = Λ ++ G) (hn : Γ.Nodup)
    (hG : ∀ g ∈ G, M.loc g = none) (hd : M.loc dst = none)
    (look1 : ∀ j s, Γ[j]? = some s → σ'.getD s .u = renA (fun j => Γ[j]?) (out.getD j .u))
    (look2 : ∀ t, t ∉ Γ → t ≠ dst → σ'.getD t .u = dropL D' (σ.getD t .u))
    (hD : ∀ s, s ∈ D' ∨ (s ∉ G ∧ s ≠ dst ∧ ∀ j, Λ[j]? = some s → PG.any (inPts s) = false ∧ refable (out.getD j .u) = true))
    (hlast : dst ∉ Γ → GS (backMem M M' Λ Γ PG dst X) w' σ' dst (σ'.getD dst .u) X) : Core σ' (backMem M M' Λ Γ PG dst X) w' ∧ (∀ k ad, M.loc k = some ad → backOw M M' Λ Γ PG dst ad.block = M.ow ad.block) ∧ ∀ k, M.loc k = none → k ∉ G → k ≠ dst → (backMem M M' Λ Γ PG dst X).tm k = M.tm k := by
  have hnΛ : Λ.Nodup := by rw [hΓ] at hn; exact (List.nodup_append.1 hn).1
  have hΛΓ : ∀ {j s : Nat}, Λ[j]? = some s → Γ[j]? = some s := fun {j s} hg => by rw [hΓ, List.getElem?_append_left (List.getElem?_eq_some_iff.1 hg).1]; exact hg
  have tmΛ : ∀ {j s : Nat}, Λ[j]? = some s → (PG.any (inPts s) = false ∨ M.loc s = none) → M'.tm j = M.tm s := fun {j s} hg hp => by
    have h1 : (bMem M Λ PG soft).loc j = none := by
      show (match Λ[j]? with
        | some s => if PG.any (inPts s) then M.loc s else none
        | none => none) = none
      rw [hg]
      simp only
      split
      · rename_i hx
        rcases hp with hp | hp
        · rw [hp] at hx; cases hx
        · exact hp
      · rfl
    rw [hpost.tm j (List.getElem?_eq_some_iff.1 hg).1 h1]
    show (match Λ[j]? with
      | some s => M.tm s
      | none => undef) = _
    rw [hg]
  have tmOut : ∀ {t : Nat}, t ∉ Γ → t ≠ dst → (backMem M M' Λ Γ PG dst X).tm t = M.tm t := fun {t} ht hd' => by
    show (match idxOf Γ 0 t with
      | some j => M'.tm j
      | none => if t = dst then X else M.tm t) = _
    cases hx : idxOf Γ 0 t with
    | none => simp [hd']
    | some j => exact absurd (List.mem_of_getElem? (idxOf_some hx).2) ht
  have tmAt : ∀ {j t : Nat}, Γ[j]? = some t → (backMem M M' Λ Γ PG dst X).tm t = M'.tm j := fun {j t} hg => by
    show (match idxOf Γ 0 t with
      | some j => M'.tm j
      | none => if t = dst then X else M.tm t) = _
    rw [idxOf_at hn hg]
  have cellPt : ∀ {k : Nat} {ad : Addr}, M.loc k = some ad → PG.any (inPts k) = true → ∃ k0 n j0, M.ow ad.block = some (.c k0 n) ∧ k = k0 + ad.off ∧ ad.off < n ∧ Λ[j0 + ad.off]? = some k ∧ M'.loc (j0 + ad.off) = some ad ∧ M'.ow ad.block = some (.c j0 n) ∧ Λ[j0]? = some k0 := fun {k ad} hk hp => by
    obtain ⟨k0, n, j0, g1, g2, g3, g4, g5, g6, g7⟩ := hP.at hp hk
    have h1 := (idxOf_some (g6 ad.off g4)).2
    rw [Nat.sub_zero, ← g3] at h1
    have h2 := (idxOf_some (g6 0 (by omega))).2
    rw [Nat.sub_zero, Nat.add_zero, Nat.add_zero] at h2
    have h3 : (bMem M Λ PG soft).loc (j0 + ad.off) = some ad := by
      show (match Λ[j0 + ad.off]? with
        | some s => if PG.any (inPts s) then M.loc s else none
        | none => none) = _
      rw [h1]
      simp only
      rw [if_pos hp]; exact hk
    refine ⟨k0, n, j0, g2, g3, g4, h1, by rw [hpost.loc]; exact h3, ?_, h2⟩
    rw [hpost.cown _ _ h3]
    exact bOw_c g2 g1 (by have := g6 0 (by omega); simpa using this)
  have cellNo : ∀ {k : Nat} {ad : Addr}, M.loc k = some ad → PG.any (inPts k) = false → bOw M Λ PG ad.block = none := fun {k ad} hk hp => by
    obtain ⟨_, _, _, k0, n0, h1, h2, h3⟩ := h.cell k ad hk
    refine bOw_cn h1 fun hm => ?_
    rw [List.any_eq_false] at hp
    exact hp _ hm (inPts_iff.2 ⟨by show k0 ≤ k; omega, by show k < k0 + n0; omega⟩)
  have cellOw : ∀ {k : Nat} {ad : Addr}, M.loc k = some ad → backOw M M' Λ Γ PG dst ad.block = M.ow ad.block := fun {k ad} hk => by
    cases hp : PG.any (inPts k) with
    | true =>
      obtain ⟨k0, n, j0, g1, g2, g3, g4, g5, g6, g7⟩ := cellPt hk hp
      rw [g1]
      simp [backOw, g6, List.getD, g7]
    | false => exact (back_none hpost (cell_lt (h.cell k ad hk).1) (cellNo hk hp)).2.2
  have hr := back_ren (dst := dst) (X := X) hpost hΓ hn look1
  refine ⟨?_, fun k ad hk => cellOw hk, fun k hk hkG hkd => ?_⟩
  rotate_left
  · by_cases hx : k ∈ Γ
    · rw [hΓ, List.mem_append] at hx
      rcases hx with hx | hx
      · obtain ⟨j, hj⟩ := List.getElem?_of_mem hx
        rw [tmAt (hΛΓ hj), tmΛ hj (.inr hk)]
      · exact absurd hx hkG
    · exact tmOut hx hkd
  refine Core.gen h (fun t => t ∈ Γ ∨ t = dst) (fun t ht => ?_) (fun t s ht hs hrf => ?_) (fun t k ad _ _ hk => ⟨hk, cellOw hk⟩) (fun b hb hf => ?_) (fun b t p hb ht hp => ?_) (fun _ hb => hb) (fun t ht => ?_) (fun k ad hk => ?_) (fun b q hq => ?_) h.sub
  · have ht' : t ∉ Γ ∧ t ≠ dst := ⟨fun hx => ht (.inl hx), fun hx => ht (.inr hx)⟩
    rw [look2 t ht'.1 ht'.2]
    exact ⟨dropL_cases _ _, .inr (tmOut ht'.1 ht'.2)⟩
  · have ht' : t ∉ Γ ∧ t ≠ dst := ⟨fun hx => ht (.inl hx), fun hx => ht (.inr hx)⟩
    rw [look2 t ht'.1 ht'.2] at hs
    obtain ⟨hsD, _⟩ := hasVA_dropL hs
    rcases hD s with h1 | ⟨h1, h2, h3⟩
    · exact absurd h1 hsD
    · by_cases hsΓ : s ∈ Γ
      · have hsΛ : s ∈ Λ := by
          rw [hΓ, List.mem_append] at hsΓ
          rcases hsΓ with hx | hx
          · exact hx
          · exact absurd hx h1
        obtain ⟨j, hj⟩ := List.getElem?_of_mem hsΛ
        obtain ⟨h4, h5⟩ := h3 j hj
        refine ⟨?_, (tmAt (hΛΓ hj)).trans (tmΛ hj (.inl h4))⟩
        unfold rf
        rw [look1 j s (hΛΓ hj), renA_refable h5]
        exact h5
      · refine ⟨?_, tmOut hsΓ h2⟩
        unfold rf at hrf ⊢
        rw [look2 s hsΓ h2, dropL_refable hrf]
        exact hrf
  · obtain ⟨h1, _, h3⟩ := back_none (Γ := Γ) (dst := dst) hpost hb (bOw_none hf.2)
    exact ⟨h1, hf.1, h3.trans hf.2⟩
  · have hts : t ∉ Λ := fun hx => ht (.inl (by rw [hΓ]; exact List.mem_append_left _ hx))
    obtain ⟨h1, _, h3⟩ := back_none (Γ := Γ) (dst := dst) hpost hb (bOw_rn (PG := PG) hp hts)
    exact ⟨h1, h3.trans hp⟩
  · by_cases hx : t ∈ Γ
    · obtain ⟨j, hj⟩ := List.getElem?_of_mem hx
      rw [look1 j t hj, tmAt hj]
      refine GS.ren hr (fun hs => ?_) (fun _ _ => trivial) (fun b p _ hp => ⟨rfl, ?_⟩) (hpost.core.slot j)
      · rcases hsoft with h1 | h1
        · exact h1
        · rw [List.any_eq_false] at h1
          have hl : j < out.length := by
            rcases Nat.lt_or_ge j out.length with hl | hl
            · exact hl
            · rw [getD_ge hl] at hs; simp [softA] at hs
          exact absurd hs (h1 _ (by simp [List.getD, hl]))
      · show backOw M M' Λ Γ PG dst b = _
        simp [backOw, hp, List.getD, hj]
    · rcases ht with ht | ht
      · exact absurd ht hx
      · subst ht
        have e1 : (backMem M M' Λ Γ PG t X).tm t = X := by
          show (match idxOf Γ 0 t with
            | some j => M'.tm j
            | none => if t = t then X else M.tm t) = _
          cases hy : idxOf Γ 0 t with
          | none => simp
          | some j => exact absurd (List.mem_of_getElem? (idxOf_some hy).2) hx
        rw [e1]
        exact hlast hx
  · have hk0 : M.loc k = some ad := hk
    clear hk
    have hk := hk0
    have hko : backOw M M' Λ Γ PG dst ad.block = M.ow ad.block := cellOw hk
    obtain ⟨c1, c2, c3, c4⟩ := h.cell k ad hk
    cases hp : PG.any (inPts k) with
    | true =>
      obtain ⟨k0, n, j0, g1, g2, g3, g4, g5, g6, g7⟩ := cellPt hk hp
      obtain ⟨d1, d2, d3, _⟩ := hpost.core.cell _ _ g5
      exact ⟨by rw [tmAt (hΛΓ g4)]; exact d1, d2, d3, k0, n, hko.trans g1, g2, g3⟩
    | false =>
      have hb := back_none (Γ := Γ) (dst := dst) hpost (cell_lt c1) (cellNo hk hp)
      obtain ⟨k0, n0, c4, c5⟩ := c4
      refine ⟨?_, (World.frozen?_of_block hb.1).trans c2, c3, k0, n0, hko.trans c4, c5⟩
      rw [cell_same c1 hb.1]
      congr 1
      have hkd : k ≠ dst := fun e => by subst e; rw [hd] at hk; cases hk
      by_cases hx : k ∈ Γ
      · rw [hΓ, List.mem_append] at hx
        rcases hx with hx | hx
        · obtain ⟨j, hj⟩ := List.getElem?_of_mem hx
          rw [tmAt (hΛΓ hj), tmΛ hj (.inl hp)]
        · rw [hG k hx] at hk; cases hk
      · exact (tmOut hx hkd).symm
  · have hq : backOw M M' Λ Γ PG dst b = some q := hq
    unfold backOw at hq
    split at hq
    · rename_i j p hm
      have := hpost.core.low b _ hm
      exact ⟨this.1, (hpost.fn b this.2).1⟩
    · rename_i j n hm
      have := hpost.core.low b _ hm
      exact ⟨this.1, (hpost.fn b this.2).1⟩
    · split at hq
      · have := h.low b q hq
        exact ⟨Nat.lt_of_lt_of_le this.1 hpost.kept.size, this.2⟩
      · cases hq
end
end
section
variable {P : Program} {E : Env} {cl : Calling} {H : Hints} {F : Fi} {Y : Nat → Prop} {w0 w w' : World} {m : Nat} {Mp : Mem} {nv nc : Nat} {M : Mem} {σ : List AV} {a : Act} {R : Type}
theorem GP.pts {y : Pv} {x : Value} (h : GP M w σ y x) {k n : Nat} (hq : (k, n) ∈ ptsP y) : ∃ b, 0 < n ∧ M.ow b = some (.c k n) ∧ ∀ i, i < n → M.loc (k + i) = some ⟨b, i, Option.none⟩ := by
  cases y <;> simp [ptsP] at hq
  obtain ⟨rfl, rfl⟩ := hq
  obtain ⟨b, _, h2⟩ := h
  exact ⟨b, h2⟩
theorem GPs.pts {fs : List Pv} {xs : List Value} (h : GPs M w σ fs xs) {k n : Nat} (hq : (k, n) ∈ fs.flatMap ptsP) : ∃ b, 0 < n ∧ M.ow b = some (.c k n) ∧ ∀ i, i < n → M.loc (k + i) = some ⟨b, i, none⟩ := by
  obtain ⟨y, hy, hq⟩ := List.mem_flatMap.1 hq
  obtain ⟨i, hi⟩ := List.getElem?_of_mem hy
  have hlt : i < xs.length := by rw [h.1]; exact (List.getElem?_eq_some_iff.1 hi).1
  exact (h.2 i y _ hi (List.getElem?_eq_getElem hlt)).pts hq
theorem GS.pts {t : Nat} {v : AV} {x : Value} (h : GS M w σ t v x) {k n : Nat} (hq : (k, n) ∈ ptsA v) : ∃ b, 0 < n ∧ M.ow b = some (.c k n) ∧ ∀ i, i < n → M.loc (k + i) = some ⟨b, i, none⟩ := by
  cases v with
  | p y => exact GP.pts h hq
  | tu fs => obtain ⟨xs, _, h2⟩ := h; exact h2.pts hq
  | fn f cap => obtain ⟨xs, _, h2⟩ := h; exact h2.pts hq
  | _ => simp [ptsA] at hq
theorem roA_pts {v : AV} {q : Nat × Nat} (hq : q ∈ ptsA (roA σ v)) : q ∈ ptsA v := by
  cases v with
  | p y =>
    cases y with
    | al s =>
      simp only [roA] at hq
      cases ho : ownOf σ s with
      | none =>
        rw [ho] at hq
        cases hd : ownD σ s with
        | none => rw [hd] at hq; simp [ptsA] at hq
        | some eL => rw [hd] at hq; simp [ptsA, ptsP] at hq
      | some eL =>
        obtain ⟨e, L⟩ := eL
        rw [ho] at hq
        simp only [slv] at hq
        cases he : isN e <;> rw [he] at hq <;> simp [ptsA, ptsP] at hq
    | go s =>
      simp only [roA] at hq
      cases ho : ownOf σ s with
      | none => rw [ho] at hq; simp [ptsA] at hq
      | some eL =>
        obtain ⟨e, L⟩ := eL
        rw [ho] at hq
        cases he : isN e <;> simp [he, ptsA, ptsP] at hq
    | _ => exact hq
  | fr e L => simp only [roA, slv] at hq; cases he : isN e <;> rw [he] at hq <;> simp [ptsA, ptsP] at hq
  | _ => exact hq
theorem argsM_mem {v : AV} : ∀ {ms : List Mode} {l : List Operand}, v ∈ argsM F σ ms l → ∃ x ∈ l, v = evalO F.nv σ x ∨ v = roA σ (evalO F.nv σ x)
  | _, [], h => by simp [argsM] at h
  | ms, x :: r, h => by
    simp only [argsM, List.mem_cons] at h
    rcases h with h | h
    · refine ⟨x, List.mem_cons_self, ?_⟩
      split at h
      · exact .inr h
      · exact .inl h
    · obtain ⟨y, hy, h⟩ := argsM_mem h
      exact ⟨y, List.mem_cons_of_mem _ hy, h⟩
theorem argsM_length : ∀ {ms : List Mode} {l : List Operand}, (argsM F σ ms l).length = l.length
  | _, [] => rfl
  | _, _ :: _ => by simp [argsM, argsM_length]
def modeA (F : Fi) (σ : List AV) (m : Mode) (x : Operand) : AV := match m with
  | .ro => roA σ (evalO F.nv σ x)
  | _ => evalO F.nv σ x
theorem arg_ok (h : St Y w0 m Mp F.nv F.nc M σ a w) {Λ : List Nat} {PG : List (Nat × Nat)} {soft : Bool} (hn : Λ.Nodup) (hP : PGOk M Λ PG) {x : Operand} (m : Mode)
    (hro : m = .ro → ∀ s, (evalO F.nv σ x = .p (.al s) ∨ evalO F.nv σ x = .p (.go s)) → soft = false ∧ s ∉ Λ)
    (hpts : ∀ q ∈ ptsA (modeA F σ m x), q ∈ PG) :
    GS (bMem M Λ PG soft) w (Λ.map fun s => renA (idxOf Λ 0) (σ.getD s .u)) 0 (renA (idxOf Λ 0) (modeA F σ m x)) (a.eval x) ∧ ∀ e L, modeA F σ m x ≠ .own e L := by
  have hr := bRen h.core hn hP soft
  obtain ⟨hev, hno⟩ := h.eval x
  have plain : ∀ {v : AV}, GS M w σ 0 v (a.eval x) → (∀ e L, v ≠ .own e L) → (∀ q ∈ ptsA v, q ∈ PG) → GS (bMem M Λ PG soft) w (Λ.map fun s => renA (idxOf Λ 0) (σ.getD s .u)) 0 (renA (idxOf Λ 0) v) (a.eval x) ∧ ∀ e L, v ≠ .own e L :=
    fun hv hno hp => ⟨GS.renN (t := 0) hr hno (fun _ => trivial) hp hv, hno⟩
  have row : ∀ {s : Nat} {e : TypeId} {L : List Sc}, ownOf σ s = some (e, L) → soft = false → s ∉ Λ → ∃ A c, M.tm s = .slice A L.length c ∧ L.length ≤ c ∧ RdN w (bMem M Λ PG soft).fz A L ∧ wfL (dep e) L = true := by
    intro s e L ho hsf hs
    obtain ⟨_, h2⟩ := own_at h.core (ownOf_eq ho) (ownOf_dp ho)
    exact own_read h.core (ownOf_eq ho) (ownOf_dp ho) (fun b _ hf => ⟨fun hx => (by rw [hsf] at hx; cases hx), bOw_none hf.2⟩) (fun b hb => ⟨fun hx => (by rw [hsf] at hx; cases hx), bOw_rn (h2 b hb) hs⟩)
  have plainR : ∀ {y : Pv} {x' : Value}, GP (bMem M Λ PG soft) w (Λ.map fun s => renA (idxOf Λ 0) (σ.getD s .u)) y x' → renP (idxOf Λ 0) y = some y → GS (bMem M Λ PG soft) w (Λ.map fun s => renA (idxOf Λ 0) (σ.getD s .u)) 0 (renA (idxOf Λ 0) (.p y)) x' ∧ ∀ e L, AV.p y ≠ .own e L :=
    fun hg hy => ⟨by simp only [renA, hy]; exact hg, by simp⟩
  have slvR : ∀ e L, renP (idxOf Λ 0) (slv e L) = some (slv e L) := fun e L => by unfold slv; cases isN e <;> rfl
  unfold modeA at hpts ⊢
  cases m with
  | ro =>
    simp only at hpts ⊢
    cases hv : evalO F.nv σ x with
    | p y =>
      rw [hv] at hpts
      cases y with
      | al s =>
        simp only [roA] at hpts ⊢
        cases ho : ownOf σ s with
        | none =>
          cases hd : ownD σ s with
          | none => exact ⟨trivial, by simp⟩
          | some q =>
            obtain ⟨e, L⟩ := q
            obtain ⟨h1, h2⟩ := hro rfl s (.inl hv)
            obtain ⟨A, c, h3, h4, h5, h6⟩ := (own_deep h.core hd).read (Z := (bMem M Λ PG soft).fz) fun b q hb => ⟨fun hx => (by rw [h1] at hx; cases hx), bOw_rn hb h2⟩
            exact plainR (y := .nl (dep (ud e)) L) ⟨A, c, by rw [(eval_p h hv).2, h3], h4, h5, h6⟩ rfl
        | some q =>
          obtain ⟨e, L⟩ := q
          obtain ⟨h1, h2⟩ := hro rfl s (.inl hv)
          obtain ⟨A, c, h3, h4, h5, h6⟩ := row ho h1 h2
          rw [(eval_p h hv).2, h3]
          exact plainR (slv_of rfl h4 h5 h6) (slvR e L)
      | go s =>
        simp only [roA] at hpts ⊢
        cases ho : ownOf σ s with
        | none => exact ⟨trivial, by simp⟩
        | some q =>
          obtain ⟨e, L⟩ := q
          cases he : isN e with
          | true => simp only [he]; exact ⟨trivial, by simp⟩
          | false =>
            obtain ⟨h1, h2⟩ := hro rfl s (.inr hv)
            obtain ⟨A, c, h3, h4, h5, h6⟩ := row ho h1 h2
            have := (eval_p h hv).2
            rw [(dep_zero he).1] at h6
            simp only [he]
            exact plainR (y := .gr L) ⟨A, c, by rw [this, h3], h4, Rd_of h5 h6⟩ rfl
      | sc y => rw [hv] at hev hno; exact plain (v := .p (.sc y)) hev hno hpts
      | sl y => rw [hv] at hev hno; exact plain (v := .p (.sl y)) hev hno hpts
      | gr y => rw [hv] at hev hno; exact plain (v := .p (.gr y)) hev hno hpts
      | ev y => rw [hv] at hev hno; exact plain (v := .p (.ev y)) hev hno hpts
      | el y => rw [hv] at hev hno; exact plain (v := .p (.el y)) hev hno hpts
      | pt k n => rw [hv] at hev hno; exact plain (v := .p (.pt k n)) hev hno hpts
      | fp k => rw [hv] at hev hno; exact plain (v := .p (.fp k)) hev hno hpts
      | st y => rw [hv] at hev hno; exact plain (v := .p (.st y)) hev hno hpts
      | ll y => rw [hv] at hev hno; exact plain (v := .p (.ll y)) hev hno hpts
      | nl d y => rw [hv] at hev hno; exact plain (v := .p (.nl d y)) hev hno hpts
      | en d y => rw [hv] at hev hno; exact plain (v := .p (.en d y)) hev hno hpts
    | fr e L =>
      rw [hv] at hev
      exact plain (v := .p (slv e L)) (fr_slv h.core hev) (by simp) (by unfold slv; cases isN e <;> simp [ptsA, ptsP])
    | own e L => exact absurd hv (hno e L)
    | u => exact ⟨trivial, by simp [roA]⟩
    | mv => exact ⟨trivial, by simp [roA]⟩
    | und => rw [hv] at hev; exact ⟨hev, by simp [roA]⟩
    | ep s i => exact ⟨trivial, by simp [roA]⟩
    | tu fs => rw [hv] at hev hno hpts; exact plain (v := .tu fs) hev hno hpts
    | fn f cap => rw [hv] at hev hno hpts; exact plain (v := .fn f cap) hev hno hpts
  | io => exact plain hev hno hpts
  | fz => exact plain hev hno hpts
theorem args_ok (h : St Y w0 m Mp F.nv F.nc M σ a w) {Λ : List Nat} {PG : List (Nat × Nat)} {soft : Bool} (hn : Λ.Nodup) (hP : PGOk M Λ PG) : ∀ (l : List Operand) (ms : List Mode),
    (∀ s ∈ roOf F σ ms l, soft = false ∧ s ∉ Λ) → (∀ v ∈ argsM F σ ms l, ∀ q ∈ ptsA v, q ∈ PG) → ∀ (i : Nat) v x, (argsM F σ ms l)[i]? = some v → (l.map a.eval)[i]? = some x →
    GS (bMem M Λ PG soft) w (Λ.map fun s => renA (idxOf Λ 0) (σ.getD s .u)) 0 (renA (idxOf Λ 0) v) x ∧ ∀ e L, v ≠ .own e L
  | [], ms, _, _, i, v, x, hv, _ => by simp [argsM] at hv
  | y :: r, ms, hro, hpts, i, v, x, hv, hx => by
    have e0 : argsM F σ ms (y :: r) = modeA F σ (ms.headD .ro) y :: argsM F σ ms.tail r := by
      simp only [argsM, modeA]
      cases ms.headD .ro <;> rfl
    rw [e0] at hv hpts
    have hro' : ∀ s ∈ roOf F σ ms.tail r, s ∈ roOf F σ ms (y :: r) := fun s hs => by
      simp only [roOf]
      split
      · exact List.mem_cons_of_mem _ hs
      · exact List.mem_cons_of_mem _ hs
      · exact hs
    cases i with
    | zero =>
      simp only [List.getElem?_cons_zero, Option.some.injEq] at hv
      simp only [List.map_cons, List.getElem?_cons_zero, Option.some.injEq] at hx
      subst hv hx
      refine arg_ok h hn hP _ (fun hm s hs => hro s ?_) (hpts _ List.mem_cons_self)
      simp only [roOf, hm]
      rcases hs with hs | hs
      · rw [hs]; exact List.mem_cons_self
      · rw [hs]; exact List.mem_cons_self
    | succ i =>
      exact args_ok h hn hP r ms.tail (fun s hs => hro s (hro' s hs)) (fun v hv => hpts v (List.mem_cons_of_mem _ hv)) i v x (by simpa using hv) (by simpa using hx)
theorem callee_ok (h : St Y w0 m Mp F.nv F.nc M σ a w) (hE : EnvOk P E) {o : Oper} {c : Call} {f : FuncId} {cap : List Pv} {fn : Func} (ho : o.op = .call c) (hc : calleeOf F σ c.callee = some (f, cap)) (hf : P.funcs[f]? = some fn) (hb : fn.body.isSome = true) :
    ∃ xs : List Value, GPs M w σ cap xs ∧ (execOp a.eval o).run P w = .ok (.enter f (c.args.toList.map a.eval ++ xs).toArray) w := by
  obtain ⟨cal, args, tys⟩ := c
  have e1 : (args.map a.eval) = (args.toList.map a.eval).toArray := by
    apply Array.ext'
    simp
  simp only [calleeOf] at hc
  split at hc
  · simp only [Option.some.injEq, Prod.mk.injEq] at hc
    obtain ⟨rfl, rfl⟩ := hc
    refine ⟨[], ⟨rfl, fun i y z hy => by simp at hy⟩, ?_⟩
    simp only [execOp, ho, resolve, Act.eval, Deferred.ofValue, Sem.run_bind, Sem.run_pure, Result.andThen_ok, invoke, Array.append_empty, Array.empty_append, e1, List.append_nil]
    rw [run_callFunc hf hb (hE.fn _ fn hf hb)]
  · rename_i t
    split at hc
    · rename_i f' cap' hv
      simp only [Option.some.injEq, Prod.mk.injEq] at hc
      obtain ⟨rfl, rfl⟩ := hc
      have hev := (h.eval (.tmp t)).1
      rw [hv] at hev
      obtain ⟨xs, h1, h2⟩ := hev
      refine ⟨xs, h2, ?_⟩
      simp only [execOp, ho, resolve, h1, Deferred.ofValue, Sem.run_bind, Sem.run_pure, Result.andThen_ok, invoke, Array.empty_append, e1]
      rw [show (args.toList.map a.eval).toArray ++ xs.toArray = (args.toList.map a.eval ++ xs).toArray by simp]
      rw [run_callFunc hf hb (hE.fn _ fn hf hb)]
    · cases hc
  · cases hc
theorem plains_GPs {M' : Mem} {out : List AV} {rs : List AV} {ys : List Pv} {xs : List Value} (hp : pvs rs = some ys) (hl : xs.length = rs.length) (hr : ∀ (i : Nat) v x, rs[i]? = some v → xs[i]? = some x → GS M' w' out 0 v x) : GPs M' w' out ys xs := by
  have := pvs_spec hp
  subst this
  refine ⟨by simpa using hl, fun i y z hy hz => ?_⟩
  exact hr i (.p y) z (by simp [hy]) hz
theorem step_eff (hmF : F.m = m) (h0 : St Y w0 m Mp F.nv F.nc M σ a w) (hE : EnvOk P E) (hcl : CallOk P cl) {o : Oper} {d : Option Tmp} (hd : o.dst = d) {c : Call} (ho : o.op = .call c) {k : List AV → Option R} {r : R} (hk : effCall cl H F σ d c k = some r) : Turns P Y w0 m Mp F.nv F.nc a w o k r := by
  unfold effCall at hk
  split at hk
  · rename_i f cap0 d' hc0
    simp only [] at hk
    generalize hms : modesOf H f = ms at hk
    generalize hsf : isIn H.soft f = soft at hk
    obtain ⟨M1, h⟩ := h0.shareIfs (toShare F σ soft ms c.args.toList)
    generalize (toShare F σ soft ms c.args.toList).foldl Ev.shareIf σ = σ1 at hk h
    clear h0 hc0
    split at hk
    · rename_i f' cap hc
      generalize has : argsM F σ1 ms c.args.toList ++ cap.map AV.p = as at hk
      generalize hΛ : closeL σ1 200 (as.flatMap refsA) [] = Λ at hk
      generalize hcs : (Λ.map fun s => σ1.getD s .u) = cs at hk
      generalize hPG : (as ++ cs).flatMap ptsA = PG at hk
      split at hk
      · cases hk
      · rename_i hchk
        simp only [Bool.and_eq_true, List.all_eq_true, Bool.not_eq_true'] at hchk
        obtain ⟨hff, hcan, hnd, hpg, hro⟩ := hchk
        have hff : f = f' := nbeq.1 hff
        subst hff
        have hn := nodupB_iff hnd
        split at hk
        · cases hk
        · rename_i g rs out hrs
          have hg : g = true := by
            cases g with
            | true => rfl
            | false =>
              exfalso
              split at hk
              · unfold newBack at hk
                split at hk
                · split at hk <;> simp [br] at hk
                · cases hk
              · split at hk
                · cases hk
                · split at hk
                  · cases hk
                  · simp [br] at hk
          subst hg
          obtain ⟨fn, hf, hb⟩ := (hcl f _ _ rs out hrs).has
          obtain ⟨xs, hcap, hrun⟩ := callee_ok h hE ho hc hf hb
          have inPG : ∀ v, (v ∈ as ∨ v ∈ cs) → ∀ q ∈ ptsA v, q ∈ PG := fun v hv q hq => by
            rw [← hPG]
            exact List.mem_flatMap.2 ⟨v, List.mem_append.2 hv, hq⟩
          have hP : PGOk M1 Λ PG := by
            intro k n hkn
            refine ⟨?_, ?_⟩
            · rw [← hPG] at hkn
              obtain ⟨v, hv, hq⟩ := List.mem_flatMap.1 hkn
              rcases List.mem_append.1 hv with hv | hv
              · rw [← has] at hv
                rcases List.mem_append.1 hv with hv | hv
                · obtain ⟨x, _, hx⟩ := argsM_mem hv
                  rcases hx with rfl | rfl
                  · exact (h.eval x).1.pts hq
                  · exact (h.eval x).1.pts (roA_pts hq)
                · obtain ⟨y, hy, rfl⟩ := List.mem_map.1 hv
                  exact hcap.pts (List.mem_flatMap.2 ⟨y, hy, hq⟩)
              · rw [← hcs] at hv
                obtain ⟨s, _, rfl⟩ := List.mem_map.1 hv
                exact (h.core.slot s).pts hq
            · have := hpg (k, n) hkn
              simp only at this
              split at this
              · rename_i j hj
                exact ⟨j, run?_spec this⟩
              · cases this
          have hpre : Pre w (bMem M1 Λ PG soft) (Λ.map fun s => renA (idxOf Λ 0) (σ1.getD s .u)) (as.map (renA (idxOf Λ 0))) (c.args.toList.map a.eval ++ xs) := by
            refine ⟨bCore h.core hn hP (fun s hs q hq => inPG _ (.inr (by rw [← hcs]; exact List.mem_map.2 ⟨s, hs, rfl⟩)) q hq) soft, fun b hb => ?_, fun k ad hk => ?_, ?_, fun i v x hv hx => ?_⟩
            · refine ⟨h.fresh b hb, .inl ?_⟩
              cases hq : M1.ow b with
              | none => rfl
              | some q => have := (h.core.low b q hq).1; omega
            · have hk : (match Λ[k]? with
                | some s => if PG.any (inPts s) then M1.loc s else none
                | none => none) = some ad := hk
              cases hg : Λ[k]? with
              | none => rw [hg] at hk; cases hk
              | some s => simpa using (List.getElem?_eq_some_iff.1 hg).1
            · rw [← has]
              simp [argsM_length, hcap.1]
            · simp only [List.getElem?_map, Option.map_eq_some_iff] at hv
              obtain ⟨v0, hv0, rfl⟩ := hv
              have fin : GS (bMem M1 Λ PG soft) w (Λ.map fun s => renA (idxOf Λ 0) (σ1.getD s .u)) 0 (renA (idxOf Λ 0) v0) x ∧ ∀ e L, v0 ≠ .own e L := by
                rw [← has] at hv0
                by_cases hi : i < c.args.toList.length
                · rw [List.getElem?_append_left (by rw [argsM_length]; exact hi)] at hv0
                  rw [List.getElem?_append_left (by simpa using hi)] at hx
                  refine args_ok h hn hP c.args.toList ms (fun s hs => ?_) (fun v hv q hq => inPG v (.inl (by rw [← has]; exact List.mem_append_left _ hv)) q hq) i v0 x hv0 hx
                  have := hro s hs
                  refine ⟨this.1, fun hm => ?_⟩
                  rw [isIn_iff.2 hm] at this
                  cases this.2
                · rw [List.getElem?_append_right (by rw [argsM_length]; omega), argsM_length, List.getElem?_map, Option.map_eq_some_iff] at hv0
                  obtain ⟨y, hy, rfl⟩ := hv0
                  rw [List.getElem?_append_right (by simpa using hi)] at hx
                  have hx : xs[i - c.args.toList.length]? = some x := by simpa using hx
                  refine ⟨GS.renN (t := 0) (bRen h.core hn hP soft) (by simp) (fun _ => trivial) (fun q hq => inPG (.p y) (.inl ?_) q hq) (hcap.2 _ y x hy hx), by simp⟩
                  rw [← has]
                  exact List.mem_append_right _ (List.mem_map.2 ⟨y, List.mem_of_getElem? hy, rfl⟩)
              exact ⟨fin.1, renA_own fin.2⟩
          have e2 : cs.map (renA (idxOf Λ 0)) = Λ.map fun s => renA (idxOf Λ 0) (σ1.getD s .u) := by rw [← hcs, List.map_map]; rfl
          split at hk
          · rename_i hnew
            have hcs0 : cs = [] := by
              unfold isNew at hnew
              split at hnew
              · rfl
              · cases hnew
            have hΛ0 : Λ = [] := by rw [← hcs] at hcs0; exact List.map_eq_nil_iff.1 hcs0
            have hcall := ((hcl f _ _ rs out hrs).new (by rw [isNew_map]; exact hnew)).2
            rw [hΛ0] at hpre hcall
            have how : ∀ b, (bMem M1 [] PG soft).ow b = none := fun b => by
              show bOw M1 [] PG b = none
              unfold bOw
              split
              · rfl
              · split <;> rfl
              · rfl
            unfold newBack at hk
            split at hk
            · rename_i b hs hvt
              simp only [Bool.and_eq_true, List.all_eq_true] at hs
              obtain ⟨hs1, hs2, hs3⟩ := hs
              rw [Nat.blt_eq] at hs3
              split at hk
              · rename_i hbc
                simp only [Bool.and_eq_true, Nat.ble_eq] at hbc
                have hk : k (setA (layAt b out σ1) (F.nv + d') (.p (.pt b out.length))) = some r := hk
                intro next Q hnx
                unfold Oper.wp
                rw [hrun]
                refine (hcall w _ _ hpre how).mono fun e w' hpost => ?_
                obtain ⟨gb, ys, he, hbel, hg1, hg2, hyl, hall⟩ := hpost
                subst he
                obtain ⟨M2, hst⟩ := h.layG hbel hg1 hg2 hs3 hyl hbc.1 (hmF ▸ hbc.2) (fun i x hx => (hall i x hx).1) (fun i v x hv hx => by
                  have hng := (hall i x hx).2 v hv
                  unfold NG at hng
                  split at hng
                  · exact hng
                  · obtain ⟨A, c', q1, q2, q3⟩ := hng
                    refine ⟨A, c', q1, q2, ?_⟩
                    rcases q3 with q3 | ⟨ad, q3, q4, q5⟩
                    · exact .inl q3
                    · refine .inr ⟨ad, q3, ?_, q5⟩
                      have q6 := q4.1 hs1
                      refine ⟨q6.1, ?_⟩
                      show (if ad.block = gb then some (Key.c b out.length) else M1.ow ad.block) = none
                      rw [if_neg q4.2]
                      rcases q6.2 with q7 | q7
                      · exact q7
                      · exact absurd (how ad.block) q7
                  · exact hng.elim) d'
                have := hnx M2 _ _ _ hk hst
                rw [hd]
                exact this
              · cases hk
            · cases hk
          · rename_i hnew
            have hcall := ((hcl f _ _ rs out hrs).old (by rw [isNew_map]; exact hnew)).2
            rw [e2] at hcall
            split at hk
            · cases hk
            · rename_i hsoft
              split at hk
              · cases hk
              · rename_i σ' hback
                have hk : k σ' = some r := hk
                intro next Q hnx
                unfold Oper.wp
                rw [hrun]
                refine (hcall w _ _ hpre).mono fun e w' hpost => ?_
                obtain ⟨zs, M', he, hpost⟩ := hpost
                subst he
                rw [List.length_map] at hpost
                have hsoft' : soft = true ∨ (rs.any softA = false ∧ out.any softA = false) := by
                  cases soft with
                  | true => exact .inl rfl
                  | false => right; simpa using hsoft
                unfold back at hback
                simp only [] at hback
                split at hback
                · cases hback
                · rename_i G last hwh
                  split at hback
                  case h_2 => cases hback
                  rename_i hchk2
                  simp only [Bool.and_eq_true, List.all_eq_true] at hchk2
                  obtain ⟨hlen, hnd2, hlt⟩ := hchk2
                  have hlen : out.length = Λ.length + G.length := nbeq.1 hlen
                  have hnd2 := nodupB_iff hnd2
                  simp only [Option.some.injEq] at hback
                  have hΓn : (Λ ++ G).Nodup := (List.nodup_append.1 hnd2).1
                  generalize hD : ((Λ.zip out).filterMap fun x => match PG.any (inPts x.1) || !refable x.2 with
                    | true => some x.1
                    | false => none) = D at hback
                  have hkeys : (((Λ ++ G).zip (out.map (renA fun j => (Λ ++ G)[j]?)) ++ last).map (·.1)).Nodup := by
                    rw [List.map_append, List.map_fst_zip (by simp [hlen])]
                    exact hnd2
                  have hslen : (σ1.map (dropL (D ++ G ++ [F.nv + d']))).length = σ1.length := by simp
                  have look1 : ∀ j s, (Λ ++ G)[j]? = some s → σ'.getD s .u = renA (fun j => (Λ ++ G)[j]?) (out.getD j .u) := by
                    intro j s hj
                    have hjl := (List.getElem?_eq_some_iff.1 hj).1
                    rw [List.length_append] at hjl
                    have hjo : j < out.length := by omega
                    rw [← hback]
                    refine setAll_at _ _ hkeys (List.mem_append_left _ ?_) ?_
                    · refine List.mem_iff_getElem?.2 ⟨j, ?_⟩
                      rw [List.getElem?_zip_eq_some]
                      refine ⟨hj, ?_⟩
                      simp [List.getD, hjo]
                    · rw [hslen]
                      have := hlt s (List.mem_of_getElem? hj)
                      rwa [Nat.blt_eq] at this
                  have hlastk : ∀ x ∈ last, x.1 = F.nv + d' := by
                    intro x hx
                    unfold whereTo at hwh
                    simp only [] at hwh
                    split at hwh
                    · split at hwh
                      · simp only [Option.some.injEq, Prod.mk.injEq] at hwh; rw [← hwh.2] at hx; cases hx
                      · cases hwh
                    · simp only [Option.map_eq_some_iff, Prod.mk.injEq] at hwh
                      obtain ⟨v, _, _, rfl⟩ := hwh
                      simp only [List.mem_singleton] at hx; rw [hx]
                    · split at hwh
                      · simp only [Option.map_eq_some_iff, Prod.mk.injEq] at hwh
                        obtain ⟨v, _, _, rfl⟩ := hwh
                        simp only [List.mem_singleton] at hx; rw [hx]
                      · cases hwh
                    · cases hwh
                  have look2 : ∀ t, t ∉ Λ ++ G → t ≠ F.nv + d' → σ'.getD t .u = dropL (D ++ G ++ [F.nv + d']) (σ1.getD t .u) := by
                    intro t ht htd
                    rw [← hback, setAll_other _ _ (fun x hx e => ?_), getD_map _ _ (by unfold dropL; split <;> rfl)]
                    rcases List.mem_append.1 hx with hx | hx
                    · exact ht (e ▸ (List.of_mem_zip hx).1)
                    · exact htd (e ▸ hlastk x hx)
                  have hDD : ∀ s, s ∈ D ++ G ++ [F.nv + d'] ∨ (s ∉ G ∧ s ≠ F.nv + d' ∧ ∀ j, Λ[j]? = some s → PG.any (inPts s) = false ∧ refable (out.getD j .u) = true) := by
                    intro s
                    by_cases hs : s ∈ D ++ G ++ [F.nv + d']
                    · exact .inl hs
                    · simp only [List.mem_append, List.mem_singleton, not_or] at hs
                      refine .inr ⟨hs.1.2, hs.2, fun j hj => ?_⟩
                      have hjo : j < out.length := by have := (List.getElem?_eq_some_iff.1 hj).1; omega
                      have hz : (s, out[j]) ∈ Λ.zip out := by
                        refine List.mem_iff_getElem?.2 ⟨j, ?_⟩
                        rw [List.getElem?_zip_eq_some]
                        exact ⟨hj, List.getElem?_eq_getElem hjo⟩
                      have e3 : out.getD j .u = out[j] := by simp [List.getD, hjo]
                      rw [e3]
                      cases hx : PG.any (inPts s) || !refable out[j] with
                      | true =>
                        refine absurd ?_ hs.1.1
                        rw [← hD]
                        exact List.mem_filterMap.2 ⟨(s, out[j]), hz, by simp only [hx]⟩
                      | false => simpa using hx
                  have hren := fun (X : Value) => back_ren (dst := F.nv + d') (X := X) hpost rfl hΓn look1
                  have hplace : (∀ s ∈ G, F.nc ≤ s) ∧ (∀ s ∈ G, M1.loc s = none) ∧ (∀ t : Nat, F.nv + t ∈ G → F.nv + t = F.nv + d') ∧
                      (F.nv + d' ∉ Λ ++ G → GS (backMem M1 M' Λ (Λ ++ G) PG (F.nv + d') (packV zs)) w' σ' (F.nv + d') (σ'.getD (F.nv + d') .u) (packV zs)) ∧ (F.nv + d' ∈ Λ ++ G → ∃ j, (Λ ++ G)[j]? = some (F.nv + d') ∧ M'.tm j = packV zs) := by
                    have valok : ∀ v, (match rs with
                        | [] => some AV.u
                        | [x] => some (renA (fun j => (Λ ++ G)[j]?) x)
                        | xs => (pvs xs).map fun ys => renA (fun j => (Λ ++ G)[j]?) (.tu ys)) = some v → ∀ t, GS (backMem M1 M' Λ (Λ ++ G) PG (F.nv + d') (packV zs)) w' σ' t v (packV zs) := by
                      intro v hv t
                      have hsf : ∀ v ∈ rs, softA v = true → soft = true := fun v hv hs => by
                        rcases hsoft' with h1 | h1
                        · exact h1
                        · have := h1.1
                          rw [List.any_eq_false] at this
                          exact absurd hs (this v hv)
                      split at hv
                      · injection hv with hv; subst hv; trivial
                      · rename_i x
                        injection hv with hv
                        subst hv
                        have hl := hpost.len
                        match zs, hl with
                        | [z], _ =>
                          obtain ⟨g1, g2⟩ := hpost.res 0 x z rfl rfl
                          exact GS.renN (hren _) g2 (hsf x (by simp)) (fun _ _ => trivial) g1
                      · rename_i n1 n2
                        simp only [Option.map_eq_some_iff] at hv
                        obtain ⟨ys, hys, rfl⟩ := hv
                        have hpk : packV zs = .tuple zs.toArray := by
                          have hl := hpost.len
                          match rs, zs, hl with
                          | [], _, _ => exact absurd rfl n1
                          | [x], _, _ => exact absurd rfl (n2 x)
                          | _ :: _ :: _, _ :: _ :: _, _ => rfl
                        have hg := plains_GPs hys hpost.len fun i v x hv hx => (hpost.res i v x hv hx).1
                        refine GS.renN (t := 0) (v := .tu ys) (hren _) (by simp) (fun hs => ?_) (fun _ _ => trivial) ⟨zs, hpk, hg⟩
                        obtain ⟨y, hy, hsy⟩ := List.any_eq_true.1 hs
                        refine hsf (.p y) ?_ hsy
                        rw [pvs_spec hys]
                        exact List.mem_map.2 ⟨y, hy, rfl⟩
                    have lastval : ∀ v, last = [(F.nv + d', v)] → F.nv + d' ∉ Λ ++ G → σ'.getD (F.nv + d') .u = v ∨ σ'.getD (F.nv + d') .u = .u := by
                      intro v hv hx
                      by_cases hl : F.nv + d' < σ1.length
                      · left
                        rw [← hback]
                        exact setAll_at _ _ hkeys (List.mem_append_right _ (by rw [hv]; simp)) (by rw [hslen]; exact hl)
                      · right
                        rw [← hback]
                        exact getD_ge (by rw [setAll_length, hslen]; omega)
                    unfold whereTo at hwh
                    simp only [] at hwh
                    split at hwh
                    · rename_i e L j hvt hex
                      split at hwh
                      · rename_i hj
                        simp only [Option.some.injEq, Prod.mk.injEq] at hwh
                        obtain ⟨rfl, rfl⟩ := hwh
                        have hj : j = Λ.length := nbeq.1 hj
                        subst hj
                        refine ⟨fun s hs => (by simp only [List.mem_singleton] at hs; subst hs; have := h.ncl; omega), fun s hs => (by simp only [List.mem_singleton] at hs; subst hs; exact h.locT d'), fun t ht => (by simpa using ht), fun hx => absurd (by simp) hx, fun _ => ⟨Λ.length, by simp, ?_⟩⟩
                        have hl := hpost.len
                        match zs, hl with
                        | [z], _ =>
                          obtain ⟨g1, _⟩ := hpost.res 0 _ z rfl rfl
                          exact g1.2.symm
                      · cases hwh
                    · simp only [Option.map_eq_some_iff, Prod.mk.injEq] at hwh
                      obtain ⟨v, hv, rfl, hlast⟩ := hwh
                      refine ⟨fun s hs => (by cases hs), fun s hs => (by cases hs), fun t ht => (by cases ht), fun hx => ?_, fun hx => ?_⟩
                      · rcases lastval v hlast.symm hx with h1 | h1
                        · rw [h1]; exact valok v hv _
                        · rw [h1]; trivial
                      · exfalso
                        rw [← hlast, List.nodup_append] at hnd2
                        exact hnd2.2.2 _ hx _ (by simp) rfl
                    · split at hwh
                      · rename_i hb2
                        simp only [Bool.and_eq_true] at hb2
                        have hb3 := Nat.le_of_ble_eq_true hb2.1
                        have hb4 := Nat.le_of_ble_eq_true hb2.2
                        simp only [Option.map_eq_some_iff, Prod.mk.injEq] at hwh
                        obtain ⟨v, hv, rfl, hlast⟩ := hwh
                        refine ⟨fun s hs => (by have := List.mem_range'_1.1 hs; omega), fun s hs => ?_, fun t ht => ?_, fun hx => ?_, fun hx => ?_⟩
                        · have := List.mem_range'_1.1 hs
                          cases hl : M1.loc s with
                          | none => rfl
                          | some ad => have := h.loc s ad hl; omega
                        · have := List.mem_range'_1.1 ht; omega
                        · rcases lastval v hlast.symm hx with h1 | h1
                          · rw [h1]; exact valok v hv _
                          · rw [h1]; trivial
                        · exfalso
                          rw [← hlast, List.nodup_append] at hnd2
                          exact hnd2.2.2 _ hx _ (by simp) rfl
                      · cases hwh
                    · cases hwh
                  obtain ⟨hGn, hGl, hGt, hlastv, hin⟩ := hplace
                  obtain ⟨hcore, hcow, htmk⟩ := Core.back h.core hP hpost (hsoft'.imp_right (·.2)) rfl hΓn hGl (h.locT d') look1 look2 hDD hlastv
                  have hst := h.go (a' := a.put (some d') (packV zs)) hcore hpost.kept (fun b hb => by
                    obtain ⟨q, hq⟩ := hb
                    exact bOw_some hq) (fun b q hq => by
                    have hq : backOw M1 M' Λ (Λ ++ G) PG (F.nv + d') b = some q := hq
                    have key : ∀ q', M'.ow b = some q' → (∃ q', M1.ow b = some q') ∨ w.heap.size ≤ b := fun q' hq' => by
                      rcases hpost.may b q' hq' with ⟨q2, h2⟩ | h2
                      · exact .inl (bOw_some h2)
                      · exact .inr h2
                    unfold backOw at hq
                    split at hq
                    · rename_i hm; exact key _ hm
                    · rename_i hm; exact key _ hm
                    · split at hq
                      · exact .inl ⟨q, hq⟩
                      · cases hq) ⟨fun _ _ => rfl, fun k hk hl => htmk k hl (fun hx => by have := hGn k hx; have := h.mcl; have := h.ncl; omega) (fun e => by have := h.below d'; omega), fun k ad _ hl => hcow k ad hl, rfl, rfl⟩ rfl (by simp [Act.put]) (by rw [← hback, setAll_length, hslen]) (fun t ht => ?_) h.loc
                  · rw [hd]
                    exact hnx _ _ _ _ hk hst
                  · show (match idxOf (Λ ++ G) 0 (F.nv + t) with
                      | some j => M'.tm j
                      | none => if F.nv + t = F.nv + d' then packV zs else M1.tm (F.nv + t)) = _
                    by_cases htd : t = d'
                    · subst htd
                      have e4 : (a.put (some t) (packV zs)).tmps.getD t undef = packV zs := agetD_set_same _ _ _ _ ht
                      rw [e4]
                      cases hx : idxOf (Λ ++ G) 0 (F.nv + t) with
                      | none => simp
                      | some j =>
                        have hj := (idxOf_some hx).2
                        rw [Nat.sub_zero] at hj
                        obtain ⟨j', hj', hj2⟩ := hin (List.mem_of_getElem? hj)
                        have : idxOf (Λ ++ G) 0 (F.nv + t) = some j' := idxOf_at hΓn hj'
                        rw [hx] at this
                        injection this with this
                        subst this
                        exact hj2
                    · have e4 : (a.put (some d') (packV zs)).tmps.getD t undef = a.tmps.getD t undef := agetD_set_other _ _ _ _ _ (Ne.symm htd)
                      rw [e4, ← h.tmp t ht]
                      cases hx : idxOf (Λ ++ G) 0 (F.nv + t) with
                      | none => simp [htd]
                      | some j =>
                        have hj := (idxOf_some hx).2
                        rw [Nat.sub_zero] at hj
                        have hjΛ : Λ[j]? = some (F.nv + t) := by
                          by_cases hjl : j < Λ.length
                          · rwa [List.getElem?_append_left hjl] at hj
                          · rw [List.getElem?_append_right (by omega)] at hj
                            have := hGt t (List.mem_of_getElem? hj)
                            omega
                        have hlocn : (bMem M1 Λ PG soft).loc j = none := by
                          show (match Λ[j]? with
                            | some s => if PG.any (inPts s) then M1.loc s else none
                            | none => none) = none
                          rw [hjΛ]
                          simp only [h.locT t]
                          split <;> rfl
                        simp only
                        rw [hpost.tm j (List.getElem?_eq_some_iff.1 hjΛ).1 hlocn]
                        show (match Λ[j]? with
                          | some s => M1.tm s
                          | none => undef) = _
                        rw [hjΛ]
    · cases hk
  · cases hk
end
end Go.Proofs.YtlnhommmmajllaaGreat.Ev
