/-
  VFn: functions.
-/
import Derived.Test.YtlnhommmmajllaaGreatVCode
set_option linter.unusedVariables false
namespace Go.Proofs.YtlnhommmmajllaaGreat.Ev
open Go Go.RowKit
section
variable {P : Program} {E : Env} {cl : Calling} {H : Hints} {F : Fi} {lp : Looping} {Y : Nat → Prop} {w0 w w' : World} {m : Nat} {Mp : Mem} {M : Mem} {σ : List AV} {a : Act}
theorem GS.refn {f' : Nat → Prop} {t : Nat} {v : AV} {x : Value} (hv : noFr v = true ∨ ∀ b, M.fn b → f' b) (h : GS M w σ t v x) : GS { M with fn := f' } w σ t v x := by
  have hp : ∀ {y : Pv} {x : Value}, GP M w σ y x → GP { M with fn := f' } w σ y x := fun h => GP.keep (fun _ _ hr => ⟨hr, rfl⟩) (fun _ _ _ hk => ⟨hk, rfl⟩) (fun _ _ hf => ⟨rfl, hf⟩) h
  have hps : ∀ {fs : List Pv} {xs : List Value}, GPs M w σ fs xs → GPs { M with fn := f' } w σ fs xs := fun h => GPs.keep (fun _ _ hr => ⟨hr, rfl⟩) (fun _ _ _ hk => ⟨hk, rfl⟩) (fun _ _ hf => ⟨rfl, hf⟩) h
  cases v with
  | fr e L =>
    rcases hv with hv | hv
    · simp [noFr] at hv
    · exact ⟨h.1, fun b hb => ⟨hv b (h.2 b hb).1, (h.2 b hb).2⟩⟩
  | p y => exact hp h
  | tu fs => obtain ⟨xs, h1, h2⟩ := h; exact ⟨xs, h1, hps h2⟩
  | fn f cap => obtain ⟨xs, h1, h2⟩ := h; exact ⟨xs, h1, hps h2⟩
  | own e L => exact h
  | ep s i => exact h
  | _ => exact h
theorem start_getD (F : Fi) {n : Nat} {args inh : List AV} (hm : inh.length = F.m) (hmv : F.m ≤ F.nv) (ha : args.length ≤ n) (t : Nat) :
    (start F n args inh).getD t .u = if t < F.m then inh.getD t .u else if t < F.nv then .u else if t < F.nv + args.length then args.getD (t - F.nv) .u else if t < F.nv + n then .und else .u := by
  unfold start
  simp only [List.getD]
  by_cases h1 : t < F.m
  · rw [if_pos h1, List.getElem?_append_left (by simp; omega), List.getElem?_append_left (by simp; omega), List.getElem?_append_left (by omega)]
  · rw [if_neg h1]
    by_cases h2 : t < F.nv
    · rw [if_pos h2, List.getElem?_append_left (by simp; omega), List.getElem?_append_left (by simp; omega), List.getElem?_append_right (by omega), List.getElem?_replicate]
      rw [if_pos (by omega)]
      rfl
    · rw [if_neg h2]
      by_cases h3 : t < F.nv + args.length
      · rw [if_pos h3, List.getElem?_append_left (by simp; omega), List.getElem?_append_right (by simp; omega)]
        congr 2
        simp
        omega
      · rw [if_neg h3, List.getElem?_append_right (by simp; omega), List.getElem?_replicate]
        by_cases h4 : t < F.nv + n
        · rw [if_pos h4, if_pos (by simp; omega)]
          rfl
        · rw [if_neg h4, if_neg (by simp; omega)]
          rfl
theorem start_length (F : Fi) {n : Nat} {args inh : List AV} (hm : inh.length = F.m) (hmv : F.m ≤ F.nv) (ha : args.length ≤ n) : (start F n args inh).length = F.nv + n := by
  unfold start
  simp
  omega
def fnF (w : World) (Mp : Mem) (fresh : Bool) (b : Nat) : Prop := Mp.fn b ∧ (fresh = true → w.heap.size ≤ b ∨ ∃ q, Mp.ow b = some q)
def preF (w : World) (Mp : Mem) (fresh : Bool) : Mem := { Mp with fn := fnF w Mp fresh }
def memF (F : Fi) (w : World) (Mp : Mem) (fresh : Bool) (tm : Array Value) : Mem :=
  { tm := fun k => if k < F.m then Mp.tm k else if k < F.nv then undef else tm.getD (k - F.nv) undef, loc := Mp.loc, ow := Mp.ow, fo := Mp.fo, fn := fnF w Mp fresh }
theorem start_ok {n : Nat} {args inh : List AV} {vs : List Value} (hpre : Pre w Mp inh args vs) (hm : inh.length = F.m) (hmc : F.m ≤ F.nc) (hcv : F.nc ≤ F.nv) (hn : args.length ≤ n) {fresh : Bool} (hfr : fresh = true → args.all noFr = true ∧ inh.all noFr = true) :
    St (fun b => ∃ q, Mp.ow b = some q) w F.m (preF w Mp fresh) F.nv F.nc (memF F w Mp fresh (vs.toArray ++ Array.replicate (n - vs.toArray.size) undef)) (start F n args inh) { tmps := vs.toArray ++ Array.replicate (n - vs.toArray.size) undef, defers := [] } w := by
  generalize htm : vs.toArray ++ Array.replicate (n - vs.toArray.size) undef = tm
  have hlen : vs.length = args.length := hpre.len
  have html : tm.size = n := by rw [← htm]; simp; omega
  have hrf : ∀ s, rf inh s = true → s < F.m ∧ rf (start F n args inh) s = true := fun s hs => by
    have hlt : s < inh.length := by
      unfold rf at hs
      cases hv : inh.getD s .u with
      | u => rw [hv] at hs; cases hs
      | _ => exact lt_of_getD hv (by simp)
    rw [hm] at hlt
    refine ⟨hlt, ?_⟩
    unfold rf at hs ⊢
    rw [start_getD F hm (by omega) hn, if_pos hlt]
    exact hs
  have tr : ∀ {t t' : Nat} {v : AV} {x : Value}, (∀ e L, v ≠ .own e L) ∨ t = t' → (fresh = true → noFr v = true) → GS Mp w inh t v x → GS (memF F w Mp fresh tm) w (start F n args inh) t' v x := by
    intro t t' v x ho hnf h
    have h1 : GS (preF w Mp fresh) w inh t v x := GS.refn (by
      cases hf : fresh with
      | true => exact .inl (hnf hf)
      | false => exact .inr fun b hb => ⟨hb, fun h => (by cases h)⟩) h
    have href : ∀ s, hasVA s v = true → rf inh s = true → rf (start F n args inh) s = true ∧ (memF F w Mp fresh tm).tm s = (preF w Mp fresh).tm s := fun s _ hr => ⟨(hrf s hr).2, if_pos (hrf s hr).1⟩
    rcases ho with ho | rfl
    · exact GS.keepN (M := preF w Mp fresh) (σ := inh) ho href (fun _ _ _ hk => ⟨hk, rfl⟩) (fun _ _ hf => ⟨rfl, hf⟩) (fun _ hb => hb) (fun b hb => hpre.core.sub b hb.1) h1
    · exact GS.keep (M := preF w Mp fresh) (σ := inh) href (fun _ _ _ hk => ⟨hk, rfl⟩) (fun _ _ hf => ⟨rfl, hf⟩) (fun b p _ hp => ⟨rfl, hp⟩) (fun _ hb => hb) (fun b hb => hpre.core.sub b hb.1) h1
  have tmv : ∀ t, F.nv ≤ t → (memF F w Mp fresh tm).tm t = tm.getD (t - F.nv) undef := fun t ht => by
    show (if t < F.m then _ else if t < F.nv then _ else _) = _
    rw [if_neg (by omega), if_neg (by omega)]
  refine ⟨⟨fun t => ?_, fun k ad hk => ?_, fun b q hb => ?_, fun b hb => hpre.core.sub b hb.1⟩, Kept.refl _ _, fun b q hb => .inl ⟨q, hb⟩, fun b hb => ⟨hpre.fr b hb, fun _ => .inl hb⟩, rfl, ?_, fun t ht => ?_, fun k ad hk => ?_, hcv, hmc, ⟨fun _ _ => rfl, fun k hk _ => if_pos hk, fun _ _ _ _ => rfl, rfl, rfl⟩⟩
  · rw [start_getD F hm (by omega) hn]
    split
    · rename_i ht
      have e1 : (memF F w Mp fresh tm).tm t = Mp.tm t := if_pos ht
      rw [e1]
      refine tr (.inr rfl) (fun hf => ?_) (hpre.core.slot t)
      have := (hfr hf).2
      rw [List.all_eq_true] at this
      exact this _ (by simp [List.getD, hm, ht])
    · split
      · trivial
      · rename_i h1 h2
        rw [tmv t (by omega)]
        split
        · rename_i h3
          have hi : t - F.nv < args.length := by omega
          have hi' : t - F.nv < vs.length := by omega
          have e1 : args.getD (t - F.nv) .u = args[t - F.nv] := by simp [List.getD, hi]
          have e2 : tm.getD (t - F.nv) undef = vs[t - F.nv] := by
            rw [← htm]
            simp [Array.getD, Array.getElem_append_left, hi']
            omega
          rw [e1, e2]
          obtain ⟨g1, g2⟩ := hpre.arg (t - F.nv) _ _ (List.getElem?_eq_getElem hi) (List.getElem?_eq_getElem hi')
          refine tr (.inl g2) (fun hf => ?_) g1
          have := (hfr hf).1
          rw [List.all_eq_true] at this
          exact this _ (List.getElem_mem hi)
        · split
          · rename_i h3 h4
            show tm.getD (t - F.nv) undef = undef
            rw [← htm, Array.getD_eq_getD_getElem?, Array.getElem?_append_right (by simp; omega)]
            simp only [Array.getElem?_replicate]
            split <;> rfl
          · trivial
  · obtain ⟨c1, c2, c3⟩ := hpre.core.cell k ad hk
    have hkm : k < F.m := hm ▸ hpre.loc k ad hk
    have e1 : (memF F w Mp fresh tm).tm k = Mp.tm k := if_pos hkm
    rw [e1]
    exact ⟨c1, c2, c3⟩
  · have := hpre.core.low b q hb
    exact ⟨this.1, this.2, fun _ => .inr ⟨q, hb⟩⟩
  · rw [start_length F hm (by omega) hn, html]
  · rw [tmv _ (Nat.le_add_right _ _), Nat.add_sub_cancel_left]
  · exact Nat.lt_of_lt_of_le (hm ▸ hpre.loc k ad hk) hmc
theorem goOut_spec : ∀ (l d : List Nat), d.Nodup → (∀ s ∈ d, F.m ≤ s ∧ ∃ e L, σ.getD s .u = .own e L) → (goOut F σ l d).Nodup ∧ ∀ s ∈ goOut F σ l d, F.m ≤ s ∧ ∃ e L, σ.getD s .u = .own e L
  | [], d, hn, h => ⟨hn, h⟩
  | s :: r, d, hn, h => by
    unfold goOut
    split
    · exact goOut_spec r d hn h
    · rename_i hc
      simp only [Bool.or_eq_false_iff] at hc
      split
      · rename_i e L hs
        refine goOut_spec r _ ?_ ?_
        · rw [List.nodup_append]
          refine ⟨hn, by simp, fun x hx y hy e' => ?_⟩
          simp only [List.mem_singleton] at hy
          subst hy
          subst e'
          rw [isIn_iff.2 hx] at hc
          cases hc.2
        · intro q hq
          rcases List.mem_append.1 hq with hq | hq
          · exact h q hq
          · simp only [List.mem_singleton] at hq
            subst hq
            refine ⟨?_, e, L, hs⟩
            have : ¬ q < F.m := fun hlt => by rw [show Nat.blt q F.m = true from by rw [Nat.blt_eq]; exact hlt] at hc; cases hc.1
            omega
      · exact goOut_spec r d hn h
theorem idxOf_shift : ∀ {l : List Nat} {j s i : Nat}, idxOf l j s = some i ↔ ∃ i', idxOf l 0 s = some i' ∧ i = j + i'
  | [], j, s, i => by simp [idxOf]
  | x :: r, j, s, i => by
    unfold idxOf
    split
    · simp; constructor <;> (intro h; omega)
    · rw [idxOf_shift (l := r) (j := j + 1), ]
      constructor
      · rintro ⟨i', h1, h2⟩
        exact ⟨i' + 1, idxOf_shift.2 ⟨i', h1, by omega⟩, by omega⟩
      · rintro ⟨i', h1, h2⟩
        obtain ⟨i2, h3, h4⟩ := idxOf_shift.1 h1
        exact ⟨i2, h3, by omega⟩
def outOw (F : Fi) (M : Mem) (Mv : List Nat) (cv : Option Nat) (b : Nat) : Option Key := match M.ow b with
  | some (.r s p) => if s < F.m then some (.r s p) else (idxOf Mv F.m s).map fun j => .r j p
  | some (.c k n) => if k < F.m then some (.c k n) else none
  | none => if cv = some b then some (.r (F.m + Mv.length) []) else none
def outMem (F : Fi) (Mp M : Mem) (Mv : List Nat) (cv : Option Nat) (X : Value) : Mem :=
  { tm := fun j => if j < F.m then M.tm j else match Mv[j - F.m]? with
      | some s => M.tm s
      | none => X
    loc := Mp.loc
    ow := outOw F M Mv cv
    fo := Mp.fo
    fn := Mp.fn }
theorem outOw_none {Mv : List Nat} {b : Nat} (h : M.ow b = none) : outOw F M Mv none b = none := by simp [outOw, h]
theorem outOw_r {Mv : List Nat} {cv : Option Nat} {b s j : Nat} {p : List Nat} (h : M.ow b = some (.r s p)) (hs : F.m ≤ s) (hj : idxOf Mv F.m s = some j) : outOw F M Mv cv b = some (.r j p) := by
  simp only [outOw, h]
  rw [if_neg (by omega), hj]
  rfl
theorem outOw_rm {Mv : List Nat} {cv : Option Nat} {b s : Nat} {p : List Nat} (h : M.ow b = some (.r s p)) (hs : s < F.m) : outOw F M Mv cv b = some (.r s p) := by simp [outOw, h, hs]
theorem outOw_c {Mv : List Nat} {cv : Option Nat} {b k n : Nat} (h : M.ow b = some (.c k n)) (hk : k < F.m) : outOw F M Mv cv b = some (.c k n) := by simp [outOw, h, hk]
def rhoO (F : Fi) (Mv : List Nat) (s : Nat) : Option Nat := match Nat.blt s F.m with
  | true => some s
  | false => idxOf Mv F.m s
def rhoM (F : Fi) (s : Nat) : Option Nat := match Nat.blt s F.m with
  | true => some s
  | false => none
theorem blt_iff {s m : Nat} : Nat.blt s m = true ↔ s < m := by rw [Nat.blt_eq]
theorem rhoO_some {Mv : List Nat} {s j : Nat} (h : rhoO F Mv s = some j) : (s < F.m ∧ j = s) ∨ (F.m ≤ s ∧ idxOf Mv F.m s = some j) := by
  unfold rhoO at h
  split at h
  · rename_i hb; injection h with h; exact .inl ⟨blt_iff.1 hb, h.symm⟩
  · rename_i hb
    refine .inr ⟨?_, h⟩
    have : ¬ s < F.m := fun hlt => by rw [blt_iff.2 hlt] at hb; cases hb
    omega
structure OutIs (F : Fi) (σ : List AV) (Mv : List Nat) (out : List AV) : Prop where
  inh : ∀ s, s < F.m → out.getD s .u = renO F.m (rhoO F Mv) (σ.getD s .u)
  ex : ∀ i s, Mv[i]? = some s → out.getD (F.m + i) .u = σ.getD s .u
  nd : Mv.Nodup
  own : ∀ s ∈ Mv, F.m ≤ s ∧ ∃ e L, σ.getD s .u = .own e L
theorem renO_refable {m : Nat} {ρ : Nat → Option Nat} {v : AV} (h : refable v = true) : renO m ρ v = v := by
  have : hasPt v = false := by cases v <;> simp_all [refable, hasPt]
  unfold renO
  rw [this]
  exact renA_refable h
theorem out_ref {Mv : List Nat} {cv : Option Nat} {X : Value} {out : List AV} (ho : OutIs F σ Mv out) {s j : Nat} (hs : rhoO F Mv s = some j) (hr : rf σ s = true) : rf out j = true ∧ (outMem F Mp M Mv cv X).tm j = M.tm s := by
  unfold rf at hr ⊢
  rcases rhoO_some hs with ⟨h1, rfl⟩ | ⟨h1, h2⟩
  · rw [ho.inh j h1, renO_refable hr]
    exact ⟨hr, if_pos h1⟩
  · obtain ⟨h3, h4⟩ := idxOf_some h2
    obtain ⟨i, rfl⟩ : ∃ i, j = F.m + i := ⟨j - F.m, by omega⟩
    rw [Nat.add_sub_cancel_left] at h4
    rw [ho.ex i s h4]
    refine ⟨hr, ?_⟩
    show (if F.m + i < F.m then _ else _) = _
    rw [if_neg (by omega), Nat.add_sub_cancel_left, h4]
theorem out_ren (hloc : ∀ k, k < F.m → M.loc k = Mp.loc k) (hMp : ∀ k ad, Mp.loc k = some ad → k < F.m) {Mv : List Nat} {cv : Option Nat} {X : Value} {out : List AV} (ho : OutIs F σ Mv out) (hfn : ∀ b, M.fn b → Mp.fn b) (fo : M.fo = Mp.fo) :
    Ren M (outMem F Mp M Mv cv X) w w σ out (rhoO F Mv) (cv = none) (fun _ => False) ∧ Ren M (outMem F Mp M Mv cv X) w w σ out (rhoM F) (cv = none) (fun _ => True) := by
  have fz : cv = none → ∀ b, b < w.heap.size → M.fz b → w.heap[b]? = w.heap[b]? ∧ (outMem F Mp M Mv cv X).fz b := fun hc b _ hf => by
    subst hc
    exact ⟨rfl, by show Mp.fo b; rw [← fo]; exact hf.1, outOw_none hf.2⟩
  have fr : cv = none → ∀ b, b < w.heap.size → M.fn b → M.ow b = none → w.heap[b]? = w.heap[b]? ∧ (outMem F Mp M Mv cv X).fn b ∧ (outMem F Mp M Mv cv X).ow b = none := fun hc b _ h1 h2 => by
    subst hc
    exact ⟨rfl, hfn b h1, outOw_none h2⟩
  refine ⟨⟨fun s j hs hr => out_ref ho hs hr, fun _ _ _ _ hf => hf.elim, fz, fr⟩, ⟨fun s j hs hr => ?_, fun k j n b _ hk hc h0 hb hl => ?_, fz, fr⟩⟩
  · have : rhoO F Mv s = some j := by
      unfold rhoM at hs
      unfold rhoO
      split at hs
      · exact hs
      · cases hs
    exact out_ref ho this hr
  · have key : ∀ s j, rhoM F s = some j → s < F.m ∧ j = s := fun s j hs => by
      unfold rhoM at hs
      split at hs
      · rename_i hb; injection hs with hs; exact ⟨blt_iff.1 hb, hs.symm⟩
      · cases hs
    obtain ⟨h1, rfl⟩ := key k j hk
    refine ⟨outOw_c hb h1, fun i hi => ?_⟩
    obtain ⟨h2, _⟩ := key (j + i) (j + i) (hc i hi)
    have := hloc (j + i) h2
    show Mp.loc (j + i) = _
    rw [← this]
    exact hl i hi
theorem pts_hasPt {v : AV} (h : hasPt v = false) : ptsA v = [] := by
  cases v with
  | p y => cases y <;> simp_all [hasPt, ptsA, ptsP]
  | _ => simp_all [hasPt, ptsA]
theorem renP_soft {ρ : Nat → Option Nat} {y y' : Pv} (h : renP ρ y = some y') : softP y' = softP y := by
  cases y with
  | al s => simp only [renP, Option.map_eq_some_iff] at h; obtain ⟨j, _, rfl⟩ := h; rfl
  | go s => simp only [renP, Option.map_eq_some_iff] at h; obtain ⟨j, _, rfl⟩ := h; rfl
  | pt k n =>
    simp only [renP] at h
    split at h
    · split at h
      · injection h with h; subst h; rfl
      · cases h
    · cases h
  | fp k => simp [renP] at h
  | _ => simp only [renP, Option.some.injEq] at h; subst h; rfl
theorem renPs_soft {ρ : Nat → Option Nat} : ∀ {l l' : List Pv}, renPs ρ l = some l' → l'.any softP = l.any softP
  | [], l', h => by simp only [renPs, Option.some.injEq] at h; subst h; rfl
  | x :: r, l', h => by
    simp only [renPs] at h
    split at h
    · rename_i y ys h1 h2
      injection h with h; subst h
      simp only [List.any_cons, renP_soft h1, renPs_soft h2]
    · cases h
theorem renA_soft (ρ : Nat → Option Nat) (v : AV) : renA ρ v = .u ∨ softA (renA ρ v) = softA v := by
  cases v with
  | p y =>
    simp only [renA]
    cases hy : renP ρ y with
    | none => exact .inl rfl
    | some y' => exact .inr (renP_soft hy)
  | tu fs =>
    simp only [renA]
    cases hy : renPs ρ fs with
    | none => exact .inl rfl
    | some y' => exact .inr (renPs_soft hy)
  | fn f cap =>
    simp only [renA]
    cases hy : renPs ρ cap with
    | none => exact .inl rfl
    | some y' => exact .inr (renPs_soft hy)
  | ep s i => exact .inl rfl
  | _ => exact .inr rfl
theorem renO_soft (m : Nat) (ρ : Nat → Option Nat) (v : AV) : renO m ρ v = .u ∨ softA (renO m ρ v) = softA v := by
  unfold renO
  split
  · exact renA_soft _ v
  · exact renA_soft _ v
theorem renA_ownI {ρ : Nat → Option Nat} {v : AV} {e : TypeId} {L : List Sc} (h : renA ρ v = .own e L) : v = .own e L := by
  cases v with
  | p y => simp only [renA] at h; split at h <;> cases h
  | tu y => simp only [renA] at h; split at h <;> cases h
  | fn f y => simp only [renA] at h; split at h <;> cases h
  | ep s i => cases h
  | _ => exact h
theorem renO_own {m : Nat} {ρ : Nat → Option Nat} {v : AV} {e : TypeId} {L : List Sc} (h : renO m ρ v = .own e L) : v = .own e L := by
  unfold renO at h
  split at h
  · exact renA_ownI h
  · exact renA_ownI h
theorem out_val (hloc : ∀ k, k < F.m → M.loc k = Mp.loc k) (hMp : ∀ k ad, Mp.loc k = some ad → k < F.m) {Mv : List Nat} {cv : Option Nat} {X : Value} {out : List AV} (ho : OutIs F σ Mv out) (hfn : ∀ b, M.fn b → Mp.fn b) (fo : M.fo = Mp.fo) {t t' : Nat} {v : AV} {x : Value}
    (hv : (∀ e L, v ≠ .own e L) ∨ (t = t' ∧ t < F.m)) (hs : softA (renO F.m (rhoO F Mv) v) = true → cv = none) (hg : GS M w σ t v x) : GS (outMem F Mp M Mv cv X) w out t' (renO F.m (rhoO F Mv) v) x := by
  rcases renO_soft F.m (rhoO F Mv) v with hu | hsoft
  · rw [hu]; trivial
  rw [hsoft] at hs
  obtain ⟨r1, r2⟩ := out_ren (cv := cv) (X := X) hloc hMp ho hfn fo
  unfold renO
  rcases hv with hv | ⟨rfl, hv⟩
  · split
    · exact GS.renN r2 hv hs (fun _ _ => trivial) hg
    · rename_i hp
      exact GS.renN r1 hv hs (fun q hq => by rw [pts_hasPt hp] at hq; cases hq) hg
  · have ho : ∀ b p, b < w.heap.size → M.ow b = some (.r t p) → w.heap[b]? = w.heap[b]? ∧ (outMem F Mp M Mv cv X).ow b = some (.r t p) := fun b p _ hp => ⟨rfl, outOw_rm hp hv⟩
    split
    · exact GS.ren r2 hs (fun _ _ => trivial) ho hg
    · rename_i hp
      exact GS.ren r1 hs (fun q hq => by rw [pts_hasPt hp] at hq; cases hq) ho hg
theorem idxOf_nd {l : List Nat} (hn : l.Nodup) {i s m : Nat} (h : l[i]? = some s) : idxOf l m s = some (m + i) := idxOf_shift.2 ⟨i, idxOf_at hn h, rfl⟩
structure Conv (M : Mem) (w w0 : World) (Mp : Mem) (v : AV) (cv : Option Nat) (X : Value) : Prop where
  val : (v = .u ∧ cv = none) ∨ ∃ e L, v = .own e L ∧ (isN e = false ∧ Row w M.fz 0 e X L) ∧ X.ownBlock = cv
  blk : ∀ b, cv = some b → M.ow b = none ∧ M.fn b ∧ b < w.heap.size ∧ (w0.heap.size ≤ b ∨ ∃ q, Mp.ow b = some q)
variable {fresh : Bool} {inh : List AV}
theorem out_core (h : St (fun b => ∃ q, Mp.ow b = some q) w0 F.m (preF w0 Mp fresh) F.nv F.nc M σ a w) (hpre : Core inh Mp w0) (hMp : ∀ k ad, Mp.loc k = some ad → k < F.m) {Mv : List Nat} {cv : Option Nat} {X : Value} {out : List AV} (ho : OutIs F σ Mv out)
    (hlen : ∀ t, F.m + Mv.length < t → out.getD t .u = .u) (hcv : Conv M w w0 Mp (out.getD (F.m + Mv.length) .u) cv X)
    (hs : ∀ s, s < F.m → softA (out.getD s .u) = true → cv = none) (hs2 : ∀ s ∈ Mv, softA (σ.getD s .u) = true → cv = none) : Core out (outMem F Mp M Mv cv X) w := by
  have hfn : ∀ b, M.fn b → Mp.fn b := fun b hb => by have := hb; rw [h.stay.fn] at this; exact this.1
  have fo : M.fo = Mp.fo := h.stay.fo
  have hst : St (fun b => ∃ q, Mp.ow b = some q) w0 F.m (preF w0 Mp fresh) F.nv F.nc M σ a w := h
  refine ⟨fun t => ?_, fun k ad hk => ?_, fun b q hb => ?_, hpre.sub⟩
  · by_cases ht : t < F.m
    · have e1 : (outMem F Mp M Mv cv X).tm t = M.tm t := if_pos ht
      rw [e1, ho.inh t ht]
      refine out_val (Mp := Mp) h.stay.loc hMp ho hfn fo (.inr ⟨rfl, ht⟩) (fun hsf => ?_) (h.core.slot t)
      exact hs t ht (by rw [ho.inh t ht]; exact hsf)
    · obtain ⟨i, rfl⟩ : ∃ i, t = F.m + i := ⟨t - F.m, by omega⟩
      have e1 : (outMem F Mp M Mv cv X).tm (F.m + i) = match Mv[i]? with
          | some s => M.tm s
          | none => X := by
        show (if _ then _ else _) = _
        rw [if_neg (by omega), Nat.add_sub_cancel_left]
      rw [e1]
      cases hi : Mv[i]? with
      | some s =>
        simp only
        rw [ho.ex i s hi]
        obtain ⟨hsm, e, L, hsv⟩ := ho.own s (List.mem_of_getElem? hi)
        have hg := h.core.slot s
        rw [hsv] at hg ⊢
        refine RowO.keep hg (fun b p _ hp => ⟨rfl, outOw_r hp hsm (idxOf_nd ho.nd hi)⟩) (fun he b _ hf => ⟨rfl, by show Mp.fo b; rw [← fo]; exact hf.1, ?_⟩)
        have := hs2 s (List.mem_of_getElem? hi) (by rw [hsv]; exact he)
        subst this
        exact outOw_none hf.2
      | none =>
        simp only
        have hge : Mv.length ≤ i := by simpa using hi
        by_cases hil : i = Mv.length
        · subst hil
          rcases hcv.val with ⟨hv, _⟩ | ⟨e, L, hv, hr, hb⟩
          · rw [hv]; trivial
          · rw [hv]
            refine (RowO.flat (isN_dp hr.1)).2 ⟨hr.2.keep (fun _ _ => rfl) (fun he => by rw [hr.1] at he; cases he), fun b hb' => ?_⟩
            have hcb : cv = some b := hb.symm.trans hb'
            show outOw F M Mv cv b = _
            simp [outOw, (hcv.blk b hcb).1, hcb]
        · rw [hlen _ (by omega)]; trivial
  · have hk : Mp.loc k = some ad := hk
    have hkm : k < F.m := hMp k ad hk
    have hl : M.loc k = some ad := (h.stay.loc k hkm).trans hk
    obtain ⟨c1, c2, c3, k0, n, c4, c5, c6⟩ := h.core.cell k ad hl
    have e1 : (outMem F Mp M Mv cv X).tm k = M.tm k := if_pos hkm
    rw [e1]
    exact ⟨c1, c2, c3, k0, n, outOw_c c4 (by omega), c5, c6⟩
  · have hb : outOw F M Mv cv b = some q := hb
    cases hq : M.ow b with
    | some q' =>
      have := h.core.low b q' hq
      exact ⟨this.1, hfn b this.2⟩
    | none =>
      simp only [outOw, hq] at hb
      split at hb
      · rename_i hc
        have := hcv.blk b hc
        exact ⟨this.2.2.1, hfn b this.2.1⟩
      · cases hb
theorem out_post (h : St (fun b => ∃ q, Mp.ow b = some q) w0 F.m (preF w0 Mp fresh) F.nv F.nc M σ a w) (hpre : Core inh Mp w0) (hMp : ∀ k ad, Mp.loc k = some ad → k < F.m) {Mv : List Nat} {cv : Option Nat} {X : Value} {out : List AV} (ho : OutIs F σ Mv out)
    (hlen : ∀ t, F.m + Mv.length < t → out.getD t .u = .u) (hcv : Conv M w w0 Mp (out.getD (F.m + Mv.length) .u) cv X)
    (hs : ∀ s, s < F.m → softA (out.getD s .u) = true → cv = none) (hs2 : ∀ s ∈ Mv, softA (σ.getD s .u) = true → cv = none) {rs : List AV} {xs : List Value} (hx : xs.length = rs.length)
    (hr : ∀ (i : Nat) v x, rs[i]? = some v → xs[i]? = some x → GS (outMem F Mp M Mv cv X) w out 0 v x ∧ ∀ e L, v ≠ .own e L) : Post w0 Mp F.m w (outMem F Mp M Mv cv X) out rs xs := by
  refine ⟨out_core h hpre hMp ho hlen hcv hs hs2, h.kept, fun b q hb => ?_, rfl, fun _ hb => hb, rfl, fun k ad hk => ?_, fun k hk hn => ?_, hx, hr⟩
  · have hb : outOw F M Mv cv b = some q := hb
    cases hq : M.ow b with
    | some q' => exact h.may b q' hq
    | none =>
      simp only [outOw, hq] at hb
      split at hb
      · rename_i hc
        rcases (hcv.blk b hc).2.2.2 with h' | h'
        · exact .inr h'
        · exact .inl h'
      · cases hb
  · have hkm := hMp k ad hk
    obtain ⟨_, _, _, k0, n, c4, c5, c6⟩ := hpre.cell k ad hk
    have e1 : M.ow ad.block = Mp.ow ad.block := h.stay.own k ad hkm hk
    show outOw F M Mv cv ad.block = _
    rw [c4]
    exact outOw_c (e1.trans c4) (by omega)
  · have e1 : (outMem F Mp M Mv cv X).tm k = M.tm k := if_pos hk
    rw [e1]
    exact h.stay.tm k hk hn
theorem ownFr_spec : ∀ {l l' : List AV} {j : Nat} {v : AV}, ownFr j l = some (v, l') → ∃ i e L, l[i]? = some (.fr e L) ∧ (isN e = false ∧ v = .own e L) ∧ l' = l.set i (.p (.al j)) ∧ ∀ k x, k ≠ i → l[k]? = some x → softA x = false
  | [], _, _, _, h => by cases h
  | x :: r, l', j, v, h => by
    by_cases hx : ∃ e L, x = .fr e L
    · obtain ⟨e, L, rfl⟩ := hx
      simp only [ownFr] at h
      split at h
      · rename_i hall
        injection h with h
        rw [Prod.mk.injEq] at h
        obtain ⟨rfl, rfl⟩ := h
        simp only [Bool.and_eq_true, Bool.not_eq_true'] at hall
        obtain ⟨hne, hall⟩ := hall
        refine ⟨0, e, L, rfl, ⟨hne, rfl⟩, rfl, fun k x hk hx => ?_⟩
        obtain ⟨k, rfl⟩ : ∃ k', k = k' + 1 := ⟨k - 1, by omega⟩
        rw [List.all_eq_true] at hall
        have := hall x (List.mem_of_getElem? (by simpa using hx))
        simpa using this
      · cases h
    · have h' : (match softA x with
        | true => none
        | false => (ownFr j r).map fun y => (y.1, x :: y.2)) = some (v, l') := by
        cases x with
        | fr e L => exact absurd ⟨e, L, rfl⟩ hx
        | _ => exact h
      split at h'
      · cases h'
      · rename_i hsf
        simp only [Option.map_eq_some_iff] at h'
        obtain ⟨⟨v', r'⟩, h1, h2⟩ := h'
        rw [Prod.mk.injEq] at h2
        obtain ⟨rfl, rfl⟩ := h2
        obtain ⟨i, e, L, g1, g2, g3, g4⟩ := ownFr_spec h1
        refine ⟨i + 1, e, L, by simpa using g1, g2, by simp only [g3, List.set_cons_succ], fun k y hk hy => ?_⟩
        cases k with
        | zero => simp only [List.getElem?_cons_zero, Option.some.injEq] at hy; subst hy; exact hsf
        | succ k => exact g4 k y (by omega) (by simpa using hy)
theorem outIs_of {out : List AV} {ex : List AV} {Mv : List Nat} (hl : F.m ≤ σ.length) (h1 : ∀ s, s < F.m → out.getD s .u = ((σ.take F.m).map (renO F.m (rhoO F Mv))).getD s .u) (h2 : ∀ i s, Mv[i]? = some s → out.getD (F.m + i) .u = (Mv.map fun s => σ.getD s .u).getD i .u)
    (nd : Mv.Nodup) (own : ∀ s ∈ Mv, F.m ≤ s ∧ ∃ e L, σ.getD s .u = .own e L) : OutIs F σ Mv out := by
  refine ⟨fun s hs => ?_, fun i s hi => ?_, nd, own⟩
  · rw [h1 s hs, List.getD, List.getElem?_map, List.getElem?_take_of_lt hs, List.getElem?_eq_getElem (by omega)]
    simp [List.getD, show s < σ.length by omega]
  · rw [h2 i s hi, List.getD, List.getElem?_map, hi]
    rfl
theorem end_ok (h : St (fun b => ∃ q, Mp.ow b = some q) w0 F.m (preF w0 Mp fresh) F.nv F.nc M σ a w) (hpre : Core inh Mp w0) (hMp : ∀ k ad, Mp.loc k = some ad → k < F.m) {rs : List AV} {xs : List Value} (hx : xs.length = rs.length)
    (hr : ∀ (i : Nat) v x, rs[i]? = some v → xs[i]? = some x → GS M w σ 0 v x ∧ ∀ e L, v ≠ .own e L) {rs' out : List AV} (hout : outOf F fresh σ rs = (rs', out)) : ∃ M', Post w0 Mp F.m w M' out rs' xs := by
  have hfn : ∀ b, M.fn b → Mp.fn b := fun b hb => by have := hb; rw [h.stay.fn] at this; exact this.1
  have fo : M.fo = Mp.fo := h.stay.fo
  have hl : F.m ≤ σ.length := by rw [h.len]; have := h.mcl; have := h.ncl; omega
  unfold outOf at hout
  obtain ⟨nd, hown⟩ := goOut_spec (F := F) (σ := σ) (rs.flatMap refsA) [] List.nodup_nil (by simp)
  generalize hMv : goOut F σ (rs.flatMap refsA) [] = Mv at hout nd hown
  have hlt : ((σ.take F.m).map (renO F.m (rhoO F Mv))).length = F.m := by simp; omega
  have hle : (Mv.map fun s => σ.getD s .u).length = Mv.length := by simp
  have plain : ∀ {rs' out : List AV}, rs' = rs.map (renO F.m (rhoO F Mv)) → out = (σ.take F.m).map (renO F.m (rhoO F Mv)) ++ Mv.map (fun s => σ.getD s .u) → ∃ M', Post w0 Mp F.m w M' out rs' xs := by
    intro rs' out hrs hout
    have ho : OutIs F σ Mv out := outIs_of (ex := []) hl (fun s hs => by rw [hout, List.getD, List.getElem?_append_left (by omega)]; rfl) (fun i s hi => by
      rw [hout, List.getD, List.getElem?_append_right (by omega), hlt, Nat.add_sub_cancel_left]; rfl) nd hown
    have hz : ∀ t, F.m + Mv.length ≤ t → out.getD t .u = .u := fun t ht => getD_ge (by rw [hout, List.length_append, hlt, hle]; exact ht)
    refine ⟨_, out_post (cv := none) (X := undef) h hpre hMp ho (fun t ht => hz t (by omega)) ⟨.inl ⟨hz _ (Nat.le_refl _), rfl⟩, fun b hb => by cases hb⟩ (fun _ _ _ => rfl) (fun _ _ _ => rfl) (by rw [hrs, List.length_map]; exact hx) fun i v x hv hxi => ?_⟩
    rw [hrs, List.getElem?_map, Option.map_eq_some_iff] at hv
    obtain ⟨v, hv, rfl⟩ := hv
    obtain ⟨g1, g2⟩ := hr i v x hv hxi
    exact ⟨out_val (Mp := Mp) h.stay.loc hMp ho hfn fo (.inl g2) (fun _ => rfl) g1, fun e L he => g2 e L (renO_own he)⟩
  change (match fresh && (((σ.take F.m).map (renO F.m (rhoO F Mv))).all (fun v => !softA v) && (Mv.map fun s => σ.getD s .u).all fun v => !softA v) with
    | true => match ownFr (F.m + (Mv.map fun s => σ.getD s .u).length) (rs.map (renO F.m (rhoO F Mv))) with
      | some (v, rs'') => (rs'', (σ.take F.m).map (renO F.m (rhoO F Mv)) ++ (Mv.map fun s => σ.getD s .u) ++ [v])
      | none => (rs.map (renO F.m (rhoO F Mv)), (σ.take F.m).map (renO F.m (rhoO F Mv)) ++ Mv.map fun s => σ.getD s .u)
    | false => (rs.map (renO F.m (rhoO F Mv)), (σ.take F.m).map (renO F.m (rhoO F Mv)) ++ Mv.map fun s => σ.getD s .u)) = _ at hout
  split at hout
  · rename_i hcond
    split at hout
    · rename_i v rs2 hof
      rw [Prod.mk.injEq] at hout
      obtain ⟨rfl, rfl⟩ := hout
      simp only [Bool.and_eq_true] at hcond
      obtain ⟨hfr, hsoft, hsoftM⟩ := hcond
      rw [hle] at hof
      obtain ⟨i, e, L, g1, ⟨hne, rfl⟩, rfl, g4⟩ := ownFr_spec hof
      rw [List.getElem?_map, Option.map_eq_some_iff] at g1
      obtain ⟨v, hv, hvr⟩ := g1
      have hvfr : v = .fr e L := by
        unfold renO at hvr
        cases v with
        | fr e' L' => simpa [hasPt, renA] using hvr
        | p y => exfalso; revert hvr; split <;> (simp only [renA]; split <;> simp)
        | tu y => exfalso; revert hvr; split <;> (simp only [renA]; split <;> simp)
        | fn f y => exfalso; revert hvr; split <;> (simp only [renA]; split <;> simp)
        | _ => simp [hasPt, renA] at hvr
      subst hvfr
      have hil : i < xs.length := by rw [hx]; exact (List.getElem?_eq_some_iff.1 hv).1
      have hX := hr i _ _ hv (List.getElem?_eq_getElem hil)
      have hgX : Row w M.fz 0 e xs[i] L ∧ ∀ b, (xs[i]).ownBlock = some b → M.fn b ∧ M.ow b = none := hX.1
      generalize hxi : xs[i] = X at hgX
      have hlen2 : ((σ.take F.m).map (renO F.m (rhoO F Mv)) ++ Mv.map (fun s => σ.getD s .u) ++ [AV.own e L]).length = F.m + Mv.length + 1 := by
        rw [List.length_append, List.length_append, hlt, hle]; rfl
      generalize hout : (σ.take F.m).map (renO F.m (rhoO F Mv)) ++ Mv.map (fun s => σ.getD s .u) ++ [AV.own e L] = out at hlen2
      have hge1 : ∀ s, s < F.m → out.getD s .u = ((σ.take F.m).map (renO F.m (rhoO F Mv))).getD s .u := fun s hs => by
        rw [← hout, List.getD, List.append_assoc, List.getElem?_append_left (by omega)]; rfl
      have ho : OutIs F σ Mv out := outIs_of (ex := []) hl hge1 (fun i s hi => by
        have : i < Mv.length := (List.getElem?_eq_some_iff.1 hi).1
        rw [← hout, List.getD, List.append_assoc, List.getElem?_append_right (by omega), hlt, Nat.add_sub_cancel_left, List.getElem?_append_left (by omega)]; rfl) nd hown
      have hlast : out.getD (F.m + Mv.length) .u = .own e L := by
        rw [← hout, List.getD, List.getElem?_append_right (by rw [List.length_append, hlt, hle]; exact Nat.le_refl _), List.length_append, hlt, hle, Nat.sub_self]
        rfl
      have hfnE : M.fn = fnF w0 Mp fresh := h.stay.fn
      have hnosoft : ∀ s, s < F.m → softA (out.getD s .u) = true → X.ownBlock = none := fun s hs hsf => by
        rw [hge1 s hs] at hsf
        rw [List.all_eq_true] at hsoft
        have hm : ((σ.take F.m).map (renO F.m (rhoO F Mv))).getD s .u ∈ (σ.take F.m).map (renO F.m (rhoO F Mv)) := by
          rw [List.getD, List.getElem?_eq_getElem (by omega)]
          exact List.getElem_mem _
        have := hsoft _ hm
        rw [hsf] at this
        cases this
      have hnosoftM : ∀ s ∈ Mv, softA (σ.getD s .u) = true → X.ownBlock = none := fun s hs hsf => by
        rw [List.all_eq_true] at hsoftM
        have := hsoftM _ (List.mem_map.2 ⟨s, hs, rfl⟩)
        rw [hsf] at this
        cases this
      refine ⟨_, out_post (cv := X.ownBlock) (X := X) h hpre hMp ho (fun t ht => getD_ge (by omega)) ⟨.inr ⟨e, L, hlast, ⟨hne, hgX.1⟩, rfl⟩, fun b hb => ?_⟩ hnosoft hnosoftM (rs := (rs.map (renO F.m (rhoO F Mv))).set i (.p (.al (F.m + Mv.length)))) (xs := xs) (by rw [List.length_set, List.length_map]; exact hx) fun k v x hv' hxk => ?_⟩
      · obtain ⟨h1, h2⟩ := hgX.2 b hb
        refine ⟨h2, h1, (hgX.1.lt hb).2, ?_⟩
        rw [hfnE] at h1
        exact h1.2 hfr
      · by_cases hki : k = i
        · subst hki
          have hkl : k < (rs.map (renO F.m (rhoO F Mv))).length := by rw [List.length_map, ← hx]; exact hil
          rw [List.getElem?_set_self hkl] at hv'
          injection hv' with hv'
          subst hv'
          rw [List.getElem?_eq_getElem hil, hxi] at hxk
          injection hxk with hxk
          subst hxk
          refine ⟨⟨by unfold rf; rw [hlast]; rfl, ?_⟩, by simp⟩
          show X = if _ then _ else _
          rw [if_neg (by omega), Nat.add_sub_cancel_left, List.getElem?_eq_none (Nat.le_refl _)]
        · rw [List.getElem?_set_ne (Ne.symm hki)] at hv'
          have hns := g4 k v hki hv'
          rw [List.getElem?_map, Option.map_eq_some_iff] at hv'
          obtain ⟨v', hv', rfl⟩ := hv'
          obtain ⟨q1, q2⟩ := hr k v' x hv' hxk
          exact ⟨out_val (Mp := Mp) h.stay.loc hMp ho hfn fo (.inl q2) (fun hsf => by rw [hns] at hsf; cases hsf) q1, fun e L he => q2 e L (renO_own he)⟩
    · rw [Prod.mk.injEq] at hout
      exact plain hout.1.symm hout.2.symm
  · rw [Prod.mk.injEq] at hout
    exact plain hout.1.symm hout.2.symm
theorem softR_own {v : AV} {e : TypeId} {L : List Sc} (h : softR v = .own e L) : v = .own e L := by
  cases v with
  | fr e L => cases h
  | _ => exact h
theorem resAll_ok {Y : Nat → Prop} {m : Nat} (h : St Y w0 m Mp F.nv F.nc M σ a w) (hE : EnvOk P E) {l : List ResultVar} {σ' vs : List AV} (hv : resAll E F σ l = some (σ', vs)) : ∃ M' xs, St Y w0 m Mp F.nv F.nc M' σ' a w ∧ xs.length = vs.length ∧
    (∀ (i : Nat) v x, vs[i]? = some v → xs[i]? = some x → GS M' w σ' 0 v x ∧ ∀ e L, v ≠ .own e L) ∧ (l.mapM (resSem a.tmps)).run P w = .ok xs w := by
  unfold resAll at hv
  split at hv
  · simp only [Option.map_eq_some_iff, Prod.mk.injEq] at hv
    obtain ⟨rs, h1, rfl, rfl⟩ := hv
    obtain ⟨xs, g1, g2, g3, _⟩ := resAs_ok h hE h1
    exact ⟨M, xs, h, g1, g2, g3⟩
  · split at hv
    · rename_i rs0 _
      simp only [Option.map_eq_some_iff, Prod.mk.injEq] at hv
      obtain ⟨rs, h1, rfl, rfl⟩ := hv
      obtain ⟨M', h'⟩ := h.shareIfs (rs0.flatMap refsA)
      obtain ⟨xs, g1, g2, g3, _⟩ := resAs_ok h' hE h1
      refine ⟨M', xs, h', by rw [g1, List.length_map], fun i v x hv hx => ?_, g3⟩
      rw [List.getElem?_map, Option.map_eq_some_iff] at hv
      obtain ⟨v, hv, rfl⟩ := hv
      obtain ⟨q1, q2⟩ := g2 i v x hv hx
      refine ⟨?_, fun e L he => q2 e L (softR_own he)⟩
      cases v with
      | fr e L => exact fr_slv h'.core q1
      | _ => exact q1
    · cases hv
theorem St.take1 {Y : Nat → Prop} {m : Nat} (h : St Y w0 m Mp F.nv F.nc M σ a w) (t : Nat) : ∃ M', St Y w0 m Mp F.nv F.nc M' (Ev.take1 F σ t) a w := by
  unfold Ev.take1
  split
  · rename_i s hv
    split
    · rename_i e L ho'
      split
      · rename_i h1 h2
        have hs := ownOf_eq ho'
        have hsd : s ≠ F.nv + t := fun e' => by subst e'; simp at h1
        have hdl : F.nv + t < σ.length := by rwa [Nat.blt_eq] at h2
        have htl : t < a.tmps.size := by have := h.len; omega
        have hg := h.core.slot (F.nv + t)
        rw [hv, h.tmp t htl] at hg
        have hx : a.tmps.getD t undef = M.tm s := hg.2
        refine St.clear1 (M := _) (h.go (h.core.moveT hs hsd hdl (h.locT t)) (Kept.refl (fun _ => False) w) (fun _ hf => hf.elim) (fun b q hb => .inl (renOw_some hb)) (Stays.moved h.core (h.below t)) (a' := a) rfl rfl (moveOwn_length _ _ _ _) (fun t' ht' => ?_) h.loc) s
        show (if F.nv + t' = F.nv + t then M.tm s else M.tm (F.nv + t')) = _
        by_cases e' : t' = t
        · subst e'; rw [if_pos rfl]; exact hx.symm
        · rw [if_neg (by omega)]; exact h.tmp t' ht'
      · exact ⟨M, h⟩
    · exact ⟨M, h⟩
  · exact ⟨M, h⟩
theorem St.takes {Y : Nat → Prop} {m : Nat} : ∀ (ks : List Nat) {M : Mem} {σ : List AV}, St Y w0 m Mp F.nv F.nc M σ a w → ∃ M', St Y w0 m Mp F.nv F.nc M' (ks.foldl (Ev.take1 F) σ) a w
  | [], M, _, h => ⟨M, h⟩
  | s :: ks, _, _, h => by
    obtain ⟨M', h'⟩ := h.take1 s
    exact St.takes ks h'
theorem newRes_spec {inh : List AV} {l : List ResultVar} {rs out : List AV} (h : newRes F σ inh l = some (rs, out)) : ∃ t k n, l = [.tmp t] ∧ evalO F.nv σ (.tmp t) = .p (.pt k n) ∧ inh = [] ∧ rs = [.p (.pt 0 n)] ∧ out = ((List.range' k n).map fun s => σ.getD s .u) ∧ out.all okNew = true := by
  unfold newRes at h
  split at h
  · rename_i t
    split at h
    · rename_i k n he
      split at h
      · rename_i hok
        simp only [Option.some.injEq, Prod.mk.injEq] at h
        exact ⟨t, k, n, rfl, he, rfl, h.1.symm, h.2.symm, by rw [← h.2]; exact hok⟩
      · cases h
    · cases h
  · cases h
theorem runFn_sound (hE : EnvOk P E) (hcl : CallOk P cl) {f : FuncId} {fn : Func} (hf : P.funcs[f]? = some fn) {args inh rs out : List AV} (hlp : ∀ c, fn.body = some c → LoopOk P F (loopsOf 0 c) lp) (h : runFn E cl H F lp fn args inh = some (rs, out)) : CS P f args inh rs out := by
  unfold runFn at h
  split at h
  · cases h
  · rename_i c hb
    split at h
    · cases h
    · rename_i hchk
      simp only [Bool.and_eq_true, Nat.beq_eq, Nat.ble_eq] at hchk
      obtain ⟨_, h1, ⟨h2, h3⟩, h4, h5⟩ := hchk
      have fin : ∀ {w : World} {Mp : Mem} {vs : List Value} (hpre : Pre w Mp inh args vs) {M' : Mem} {σ' : List AV} {a' : Act} {w' : World}, (match resAll E F σ' fn.results.toList with
          | some (σ', rs) => match rs.all canArg with
            | true => some (outOf F (args.all noFr && inh.all noFr) σ' rs)
            | false => none
          | none => none) = some (rs, out) → St (fun b => ∃ q, Mp.ow b = some q) w F.m (preF w Mp (args.all noFr && inh.all noFr)) F.nv F.nc M' σ' a' w' →
          a'.defers = [] ∧ ∃ v, (results fn a'.tmps).run P w' = .ok v w' ∧ ∃ xs M', Ending.returned v = .returned (packV xs) ∧ Post w Mp inh.length w' M' out rs xs := by
        intro w Mp vs hpre M' σ' a' w' hk hst
        split at hk
        · rename_i σ2 rs0 hrs
          split at hk
          · injection hk with hk
            obtain ⟨M3, xs, hst2, g1, g2, g3⟩ := resAll_ok hst hE hrs
            obtain ⟨M2, g5⟩ := end_ok hst2 hpre.core (fun k ad hk => h1 ▸ hpre.loc k ad hk) g1 g2 hk
            refine ⟨hst.dfr, _, run_results g3, xs, M2, rfl, ?_⟩
            rw [h1]
            exact g5
          · cases hk
        · cases hk
      have nfin : ∀ {w : World} {Mp : Mem} {vs : List Value} (hpre : Pre w Mp inh args vs) (how : ∀ b, Mp.ow b = none) {M' : Mem} {σ' : List AV} {a' : Act} {w' : World}, newRes F σ' inh fn.results.toList = some (rs, out) → St (fun b => ∃ q, Mp.ow b = some q) w F.m (preF w Mp (args.all noFr && inh.all noFr)) F.nv F.nc M' σ' a' w' →
          a'.defers = [] ∧ ∃ v, (results fn a'.tmps).run P w' = .ok v w' ∧ ∃ (g : Nat) (ys : List Value), Ending.returned v = .returned (.pointer (some ⟨g, 0, none⟩)) ∧ Below w.heap.size w w' ∧ w.heap.size ≤ g ∧ g < w'.heap.size ∧ ys.length = out.length ∧
            ∀ i y, ys[i]? = some y → (w'.cell? ⟨g, i, none⟩ = some y ∧ w'.frozen? ⟨g, i, none⟩ = false) ∧ ∀ v, out[i]? = some v → NG Mp g w' v y := by
        intro w Mp vs hpre how M' σ' a' w' hk hst
        obtain ⟨t, k, n, hres, hev, hinh, hrs, hout, hall⟩ := newRes_spec hk
        have hp := eval_p hst hev
        obtain ⟨g, hg1, hg2, hg3, hg4⟩ := hp
        have hrun : ([ResultVar.tmp t].mapM (resSem a'.tmps)).run P w' = .ok [a'.eval (.tmp t)] w' := rfl
        refine ⟨hst.dfr, _, run_results (by rw [hres]; exact hrun), g, (List.range' k n).map M'.tm, by rw [hg1]; rfl, ?_, ?_, (hst.core.low g _ hg3).1, by rw [hout]; simp, fun i y hy => ?_⟩
        · have hkp := hst.kept
          exact ⟨hkp.os, hkp.tape, hkp.output, hkp.size, fun b hb => hkp.block b hb fun ⟨q, hq⟩ => by rw [how b] at hq; cases hq⟩
        · rcases hst.may g _ hg3 with ⟨q, hq⟩ | hlt
          · rw [how g] at hq; cases hq
          · exact hlt
        · rw [List.getElem?_map, Option.map_eq_some_iff] at hy
          obtain ⟨s, hs, rfl⟩ := hy
          have hi : i < n := by simpa using (List.getElem?_eq_some_iff.1 hs).1
          have hs' : s = k + i := by
            have := (List.getElem?_eq_some_iff.1 hs).2
            simp at this; omega
          subst hs'
          obtain ⟨c1, c2, _⟩ := hst.core.cell _ _ (hg4 i hi)
          refine ⟨⟨c1, c2⟩, fun v hv => ?_⟩
          have hok : okNew v = true := List.all_eq_true.1 hall v (List.mem_of_getElem? hv)
          rw [hout, List.getElem?_map, hs, Option.map_some, Option.some.injEq] at hv
          have hslot := hst.core.slot (k + i)
          rw [hv] at hslot
          have hfo : ∀ b, M'.fz b → Mp.fo b ∧ b ≠ g := fun b hb => ⟨by have := hst.stay.fo; rw [← show (preF w Mp (args.all noFr && inh.all noFr)).fo = Mp.fo from rfl, ← this]; exact hb.1, fun e => by subst e; rw [hb.2] at hg3; cases hg3⟩
          unfold okNew at hok
          split at hok
          · exact hslot
          · obtain ⟨A, c, q1, q2, q3⟩ := hslot
            refine ⟨A, c, q1, q2, ?_⟩
            rcases q3 with q3 | ⟨ad, q3, q4, q5⟩
            · exact .inl q3
            · exact .inr ⟨ad, q3, hfo _ q4, q5⟩
          · cases hok
      have main : ∀ {w : World} {Mp : Mem} {vs : List Value} (hpre : Pre w Mp inh args vs) (Q : Ending → World → Prop),
          (∀ {M' : Mem} {σ' : List AV} {a' : Act} {w' : World}, (match newRes F σ' inh fn.results.toList with
            | some x => some x
            | none => match resAll E F σ' fn.results.toList with
              | some (σ, rs) => match rs.all canArg with
                | true => some (outOf F (args.all noFr && inh.all noFr) σ rs)
                | false => none
              | none => none) = some (rs, out) → St (fun b => ∃ q, Mp.ow b = some q) w F.m (preF w Mp (args.all noFr && inh.all noFr)) F.nv F.nc M' σ' a' w' → a'.defers = [] ∧ ∃ v, (results fn a'.tmps).run P w' = .ok v w' ∧ Q (.returned v) w') → Calls P f vs.toArray w Q := by
        intro w Mp vs hpre Q hQ
        refine calls_of_wp hf hb ?_
        have hst := start_ok (F := F) (n := fn.ntmps) hpre h1 h2 h3 h4 (fresh := args.all noFr && inh.all noFr) (fun hfr => by simpa using hfr)
        obtain ⟨M0, hst⟩ := hst.takes F.tk
        refine EC_sound hE hcl c 0 (hlp c hb) hst h ?_
        intro M' x σ' a' w' hk hst
        cases x with
        | norm => exact hQ hk hst
        | ret => exact hQ hk hst
        | out id => cases hk
        | rest => cases hk
      have two : ∀ {σ' : List AV}, (match newRes F σ' inh fn.results.toList with
            | some x => some x
            | none => match resAll E F σ' fn.results.toList with
              | some (σ, rs) => match rs.all canArg with
                | true => some (outOf F (args.all noFr && inh.all noFr) σ rs)
                | false => none
              | none => none) = some (rs, out) → newRes F σ' inh fn.results.toList = some (rs, out) ∨ (match resAll E F σ' fn.results.toList with
          | some (σ', rs) => match rs.all canArg with
            | true => some (outOf F (args.all noFr && inh.all noFr) σ' rs)
            | false => none
          | none => none) = some (rs, out) := by
        intro σ' hk
        split at hk
        · rename_i x hx
          exact .inl (hx.trans hk)
        · exact .inr hk
      have hfn : ∃ fn, P.funcs[f]? = some fn ∧ fn.body.isSome = true := ⟨fn, hf, by rw [hb]; rfl⟩
      have notNew : ∀ {w : World} {Mp : Mem} {vs : List Value} (hpre : Pre w Mp inh args vs) {w' : World} {M' : Mem} {xs : List Value}, isNew inh rs = true → Post w Mp inh.length w' M' out rs xs → False := by
        intro w Mp vs hpre w' M' xs hn hp
        unfold isNew at hn
        split at hn
        · have hx : xs.length = 1 := hp.len
          obtain ⟨b, _, h2, _, h4⟩ := (hp.res 0 _ xs[0] rfl (List.getElem?_eq_getElem (by omega))).1
          have h5 := h4 0 h2
          rw [hp.loc] at h5
          have := hpre.loc _ _ h5
          simp at this
        · cases hn
      cases hn : isNew inh rs with
      | true =>
        unfold CS
        rw [hn]
        show NS P f args out
        have h0 : inh = [] := by
          unfold isNew at hn
          split at hn
          · rfl
          · cases hn
        subst h0
        refine ⟨hfn, fun w Mp vs hpre how => main hpre _ fun hk hst => ?_⟩
        rcases two hk with hk | hk
        · exact nfin hpre how hk hst
        · obtain ⟨q1, v, q2, xs, M2, q3, q4⟩ := fin hpre hk hst
          exact (notNew hpre hn q4).elim
      | false =>
        unfold CS
        rw [hn]
        show CO P f args inh rs out
        refine ⟨hfn, fun w Mp vs hpre => main hpre _ fun hk hst => ?_⟩
        rcases two hk with hk | hk
        · obtain ⟨t, k, n, _, _, hinh, hrs, _⟩ := newRes_spec hk
          subst hinh hrs
          cases hn
        · exact fin hpre hk hst
end
end Go.Proofs.YtlnhommmmajllaaGreat.Ev
