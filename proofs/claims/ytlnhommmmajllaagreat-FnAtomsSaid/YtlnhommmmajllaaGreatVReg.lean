/-
  VReg: all operations together; a region in its own order.
-/
import Derived.Test.YtlnhommmmajllaaGreatVCall
set_option linter.unusedVariables false
namespace Go.Proofs.YtlnhommmmajllaaGreat.Ev
open Go Go.RowKit
section
variable {P : Program} {E : Env} {cl : Calling} {H : Hints} {F : Fi} {Y : Nat → Prop} {w0 w w' : World} {m : Nat} {Mp : Mem} {M : Mem} {σ : List AV} {a : Act} {R : Type}
theorem stepOp_sound (hmF : F.m = m) (h : St Y w0 m Mp F.nv F.nc M σ a w) (hE : EnvOk P E) (hcl : CallOk P cl) {o : Oper} {d : Option Tmp} (hd : o.dst = d) {op : Op} (ho : o.op = op) {k : List AV → Option R} {r : R} (hk : stepOp E cl H F σ d op k = some r) : Turns P Y w0 m Mp F.nv F.nc a w o k r := by
  cases op with
  | assign x => exact step_assign h hd ho hk
  | store t p x => exact step_store h hE hd ho hk
  | alloc t => exact step_alloc hmF h hE hd ho hk
  | box t x => exact step_box hmF h hE hd ho hk
  | build t parts => exact step_build h hE hd ho hk
  | buildSlice t n parts => exact step_buildSlice h hE hcl hd ho hk
  | slice t x lo hi mx => exact step_slice h hE hd ho hk
  | call c =>
    cases hc : c.callee with
    | builtin b =>
      cases b with
      | append => exact step_append h hE hd ho hc hk
      | _ =>
        simp only [stepOp, hc, pureCall] at hk
        exact turns_of_givesF h hd (valOp_sound h hE hcl ho hk)
    | value x =>
      simp only [stepOp, hc] at hk
      split at hk
      · exact turns_of_givesF h hd (valOp_sound h hE hcl ho hk)
      · exact step_eff hmF h hE hcl hd ho hk
    | invoke x n =>
      simp only [stepOp, hc] at hk
      split at hk
      · exact turns_of_givesF h hd (valOp_sound h hE hcl ho hk)
      · exact step_eff hmF h hE hcl hd ho hk
  | _ => exact turns_of_gives h hd (valOp_sound (H := H) h hE hcl ho hk)
theorem set_self {d : Nat} {v : AV} (h : σ.getD d .u = v) (hv : v ≠ .u) : σ.set d v = σ := by
  have hd : d < σ.length := lt_of_getD h hv
  apply List.ext_getElem?
  intro i
  rw [List.getElem?_set]
  split
  · rename_i hi
    subst hi
    rw [← h]
    simp [List.getD, hd]
  · rfl
theorem slot_tmp (h : St Y w0 m Mp F.nv F.nc M σ a w) {d : Nat} {v : AV} (hx : σ.getD (F.nv + d) .u = v) (hv : v ≠ .u) : d < a.tmps.size ∧ GS M w σ (F.nv + d) v (a.tmps.getD d undef) := by
  have hl := lt_of_getD hx hv
  rw [h.len] at hl
  have hd : d < a.tmps.size := by exact Nat.lt_of_add_lt_add_left hl
  have := h.core.slot (F.nv + d)
  rw [hx, h.tmp d hd] at this
  exact ⟨hd, this⟩
theorem yielded_sc (h : St Y w0 m Mp F.nv F.nc M σ a w) {all : Array Oper} {j d : Nat} {x : Bool} (hd : (all[j]?).bind (·.dst) = some d) (hx : σ.getD (F.nv + d) .u = .p (.sc (.b x))) : yielded all a.tmps j = some x := by
  obtain ⟨hl, hs⟩ := slot_tmp h hx (by simp)
  have hs : a.tmps.getD d undef = .bool x := hs
  have hg : a.tmps[d]? = some (.bool x) := by
    rw [Array.getElem?_eq_getElem hl, ← hs]
    simp [Array.getD, hl]
  simp [yielded, hd, hg]
theorem yielded_und (h : St Y w0 m Mp F.nv F.nc M σ a w) {all : Array Oper} {j d : Nat} (hd : (all[j]?).bind (·.dst) = some d) (hx : σ.getD (F.nv + d) .u = .und) : yielded all a.tmps j = none := by
  obtain ⟨hl, hs⟩ := slot_tmp h hx (by simp)
  have hs : a.tmps.getD d undef = undef := hs
  have hg : a.tmps[d]? = some undef := by
    rw [Array.getElem?_eq_getElem hl, ← hs]
    simp [Array.getD, hl]
  simp [yielded, hd, hg, undef]
theorem guarded_sound (hmF : F.m = m) (hE : EnvOk P E) (hcl : CallOk P cl) {all : Array Oper} {Q : Exit → Act → World → Prop} {k : List AV → Option R} {r : R} {o : Oper} {rest : List Oper} (h : St Y w0 m Mp F.nv F.nc M σ a w)
    (hn : ∀ M' σ' a' w', k σ' = some r → St Y w0 m Mp F.nv F.nc M' σ' a' w' → wpList P all Q rest a' w') (hk : guarded E cl H F false all false σ o k = some r) : wpList P all Q (o :: rest) a w := by
  have one : ∀ {σ' : List AV}, σ' = σ → oneOp E cl H F false false σ' o k = some r → o.wp P a w (wpList P all Q rest) Q := by
    intro σ' he hone
    subst he
    have hone' : stepOp E cl H F σ' o.dst o.op k = some r := hone
    exact stepOp_sound hmF h hE hcl rfl rfl hone' _ _ hn
  have skip : ∀ {σ' : List AV}, σ' = σ → skipOp F false σ' o k = some r → wpList P all Q rest (a.put o.dst undef) w := by
    intro σ' he hskip
    subst he
    obtain ⟨M', hst⟩ := h.und o.dst
    have hskip' : k (put F.nv σ' o.dst .und) = some r := by
      cases hdst : o.dst with
      | none => simpa only [skipOp, hdst] using hskip
      | some d => simpa only [skipOp, hdst] using hskip
    exact hn _ _ _ _ hskip' hst
  unfold guarded at hk
  unfold wpList
  split at hk
  · rename_i hg
    rw [if_pos (by simp [Region.wanted, hg])]
    exact .inl (one rfl hk)
  · rename_i j want hg
    split at hk
    · rename_i d hd
      split at hk
      · rename_i x hx
        have hy := yielded_sc h hd hx
        rcases br_some hk with ⟨h1, h2⟩ | ⟨h1, h2⟩
        · have hxw : x = want := by simpa using h1
          subst hxw
          rw [if_pos (by simp [Region.wanted, hg, hy])]
          exact .inl (one (set_self hx (by simp)) h2)
        · have hxw : x = !want := by cases x <;> cases want <;> simp_all
          subst hxw
          rw [if_neg (by simp [Region.wanted, hg, hy])]
          exact skip (set_self hx (by simp)) h2
      · rename_i hx
        have hy := yielded_und h hd hx
        rw [if_neg (by simp [Region.wanted, hg, hy])]
        exact skip rfl hk
      · cases hk
    · cases hk
theorem goOps_sound (hmF : F.m = m) (hE : EnvOk P E) (hcl : CallOk P cl) {all : Array Oper} {Q : Exit → Act → World → Prop} {k : List AV → Option R} {r : R}
    (hQ : ∀ M' σ' a' w', k σ' = some r → St Y w0 m Mp F.nv F.nc M' σ' a' w' → Q .normal a' w') :
    ∀ (l : List Oper) (i : Nat) {M : Mem} {σ : List AV} {a : Act} {w : World}, St Y w0 m Mp F.nv F.nc M σ a w → goOps E cl H F false all l i σ k = some r → wpList P all Q l a w
  | [], _, _, _, _, _, h, hk => hQ _ _ _ _ hk h
  | o :: rest, i, M, σ, a, w, h, hk => by
    unfold goOps at hk
    simp only [Bool.false_and] at hk
    exact guarded_sound hmF hE hcl h (fun M' σ' a' w' hk' hst => goOps_sound hmF hE hcl hQ rest (i + 1) hst hk') hk
theorem St.setPlain (h : St Y w0 m Mp F.nv F.nc M σ a w) {v : AV} {x : Value} (hno : ∀ e L, v ≠ .own e L) (hv : GS M w σ 0 v x) (d : Nat) : St Y w0 m Mp F.nv F.nc (M.upd (F.nv + d) x M.ow) (setA σ (F.nv + d) v) (a.put (some d) x) w := by
  have hd := h.locT d
  have hc : Core (setA σ (F.nv + d) v) (M.upd (F.nv + d) x M.ow) w := Core.put h.core (F.nv + d) v x M.ow (fun b hb hf => ⟨rfl, hf.2⟩) (fun b t p hb _ hp => ⟨rfl, hp⟩) (fun k ad hk => by
    obtain ⟨h1, h2, h3⟩ := h.core.cell k ad hk
    have hkd : k ≠ F.nv + d := fun e => by rw [e, hd] at hk; cases hk
    rw [if_neg hkd]
    exact ⟨h1, h2, rfl⟩) (fun b q hb => h.core.low b q hb) (fun hv2 => GS.put (t := 0) h.core hv hv2 hno (fun b _ hf => ⟨rfl, hf.2⟩) (fun _ _ _ => rfl))
  exact h.go hc (Kept.refl (fun _ => False) w) (fun _ hf => hf.elim) (fun b q hb => .inl ⟨q, hb⟩) (Stays.upd (h.below d) fun _ _ _ => rfl) rfl (by simp [Act.put]) (setA_length _ _ _) (tmp_put h d x M.ow) h.loc
def owIn (s i : Nat) (ow : Nat → Option Key) (b : Nat) : Option Key := match ow b with
  | some (.r q (j :: p)) => if q = s ∧ j = i then some (.r 0 p) else none
  | _ => none
theorem owIn_at {s i b : Nat} {ow : Nat → Option Key} {p : List Nat} (h : ow b = some (.r s (i :: p))) : owIn s i ow b = some (.r 0 p) := by simp [owIn, h]
theorem owIn_none {s i b : Nat} {ow : Nat → Option Key} (h : ∀ p, ow b ≠ some (.r s (i :: p))) : owIn s i ow b = none := by
  unfold owIn
  split
  · rename_i q j p hq
    rw [if_neg]
    rintro ⟨rfl, rfl⟩
    exact h p hq
  · rfl
theorem owIn_some {s i b : Nat} {ow : Nat → Option Key} {q : Key} (h : owIn s i ow b = some q) : ∃ p, ow b = some (.r s (i :: p)) ∧ q = .r 0 p := by
  unfold owIn at h
  split at h
  · rename_i q' j p hq
    split at h
    · rename_i hc
      obtain ⟨rfl, rfl⟩ := hc
      exact ⟨p, hq, (Option.some.inj h).symm⟩
    · cases h
  · cases h
def owOut (s i : Nat) (ow ow' : Nat → Option Key) (b : Nat) : Option Key := match ow' b with
  | some (.r j p) => if j = 0 then some (.r s (i :: p)) else none
  | some (.c _ _) => none
  | none => match owIn s i ow b with
    | some _ => none
    | none => ow b
theorem owOut_at {s i b : Nat} {ow ow' : Nat → Option Key} {p : List Nat} (h : ow' b = some (.r 0 p)) : owOut s i ow ow' b = some (.r s (i :: p)) := by simp [owOut, h]
theorem owOut_old {s i b : Nat} {ow ow' : Nat → Option Key} (h : ow' b = none) (h2 : owIn s i ow b = none) : owOut s i ow ow' b = ow b := by simp [owOut, h, h2]
def memIn (s i : Nat) (M : Mem) (v : Value) : Mem := { tm := fun j => if j = 0 then v else undef, loc := fun _ => none, ow := owIn s i M.ow, fo := fun _ => True, fn := M.fn }
theorem Core.innerPre (h : Core σ M w) {s i : Nat} {e : TypeId} {L K : List Sc} {v : Value} (ho : okDeep e = true) (hK : DO M.ow w s (dpn (inn e)) [i] (inn e) v K) : Core [.own (inn e) K] (memIn s i M v) w := by
  refine ⟨fun t => ?_, fun k ad hk => (by cases hk), fun b q hb => ?_, fun _ _ => trivial⟩
  · cases t with
    | zero =>
      show RowO (memIn s i M v) w 0 (inn e) v K
      refine DO.toRowO (hK.keep fun b q hb hq => ⟨rfl, ?_⟩)
      exact owIn_at hq
    | succ t => trivial
  · obtain ⟨p, hp, _⟩ := owIn_some hb
    exact h.low b _ hp
theorem Core.innerPost (h : Core σ M w) {s i : Nat} {e : TypeId} {L K' : List Sc} {v : Value} {vs : List Value} {M' : Mem} {rs : List AV} {xs : List Value} (ho : okDeep e = true) (hs : σ.getD s .u = .own e L)
    (hrow : w.ownsRow 0 (unF e) 1 (M.tm s) L.length vs) (hvl : vs.length = L.length) (hkeys : ∀ b, (M.tm s).ownBlock = some b → M.ow b = some (.r s [])) (hin : ∀ (j : Nat) y u, L[j]? = some y → vs[j]? = some u → ∃ K, y = .l K ∧ DO M.ow w s (dpn (inn e)) [j] (inn e) u K)
    (hvi : vs[i]? = some v) (hpost : Post w (memIn s i M v) 1 w' M' [.own (inn e) K'] rs xs) : Core (σ.set s (.own e (L.set i (.l K')))) { M with ow := owOut s i M.ow M'.ow } w' ∧ ∀ k ad, M.loc k = some ad → owOut s i M.ow M'.ow ad.block = M.ow ad.block := by
  obtain ⟨o1, o2, o3⟩ := okDeep_spec ho
  have hsl : s < σ.length := lt_of_getD hs (by simp)
  have look : ∀ t, t ≠ s → (σ.set s (.own e (L.set i (.l K')))).getD t .u = σ.getD t .u := fun t ht => getD_set_other _ _ _ _ _ (Ne.symm ht)
  have old : ∀ b, b < w.heap.size → owIn s i M.ow b = none → w'.heap[b]? = w.heap[b]? ∧ owOut s i M.ow M'.ow b = M.ow b := fun b hb h0 => by
    refine ⟨hpost.kept.block b hb (fun ⟨q, hq⟩ => by have hq : owIn s i M.ow b = some q := hq; rw [h0] at hq; cases hq), ?_⟩
    refine owOut_old ?_ h0
    cases hq : M'.ow b with
    | none => rfl
    | some q =>
      rcases hpost.may b q hq with ⟨q', hq'⟩ | h2
      · have hq' : owIn s i M.ow b = some q' := hq'
        rw [h0] at hq'; cases hq'
      · omega
  have cellO : ∀ k ad, M.loc k = some ad → owIn s i M.ow ad.block = none := fun k ad hk => by
    obtain ⟨_, _, _, k0, n0, h1, _⟩ := h.cell k ad hk
    exact owIn_none fun p hp => by rw [h1] at hp; cases hp
  refine ⟨?_, fun k ad hk => (old _ (cell_lt (h.cell k ad hk).1) (cellO k ad hk)).2⟩
  refine Core.gen h (fun t => t = s) (fun t ht => ⟨.inl (look t ht), .inr rfl⟩) (fun t q _ _ hr => ⟨?_, rfl⟩) (fun _ k ad _ _ hk => ⟨hk, (old _ (cell_lt (h.cell k ad hk).1) (cellO k ad hk)).2⟩) (fun b hb hf => ?_) (fun b t p hb ht hp => ?_) (fun _ hb => hb) (fun t ht => ?_) (fun k ad hk => ?_) (fun b q hq => ?_) h.sub
  · unfold rf at hr ⊢
    by_cases hq : q = s
    · subst hq; rw [getD_set_same _ _ _ _ hsl]; rfl
    · rw [look q hq]; exact hr
  · have h0 : owIn s i M.ow b = none := owIn_none fun p hp => by rw [hf.2] at hp; cases hp
    have := old b hb h0
    exact ⟨this.1, hf.1, this.2.trans hf.2⟩
  · have h0 : owIn s i M.ow b = none := owIn_none fun p' hp' => by rw [hp] at hp'; injection hp' with hp'; injection hp' with hp' _; exact ht hp'
    have := old b hb h0
    exact ⟨this.1, this.2.trans hp⟩
  · have ht : t = s := ht
    subst ht
    rw [getD_set_same _ _ _ _ hsl]
    refine (RowO.deep o1).2 ?_
    rw [o2]
    have hg : ∀ b, (M.tm t).ownBlock = some b → w'.heap[b]? = w.heap[b]? ∧ owOut t i M.ow M'.ow b = some (.r t []) := fun b hb => by
      have hk := hkeys b hb
      have h0 : owIn t i M.ow b = none := owIn_none fun p hp => by rw [hk] at hp; cases hp
      have := old b (ownBlock_lt hrow hb).2 h0
      exact ⟨this.1, this.2.trans hk⟩
    refine ⟨⟨o1, vs, by rw [List.length_set]; exact ownsRow_keep hrow fun b hb => (hg b hb).1, by rw [List.length_set]; exact hvl, fun j y u hy hu => ?_⟩, fun b hb => (hg b hb).2⟩
    by_cases hij : i = j
    · subst hij
      have hil : i < L.length := by have := (List.getElem?_eq_some_iff.1 hy).1; simpa using this
      rw [List.getElem?_set_self hil] at hy
      injection hy with hy
      rw [hvi] at hu
      injection hu with hu
      subst hy hu
      refine ⟨K', rfl, ?_⟩
      have h5 : RowO M' w' 0 (inn e) (M'.tm 0) K' := hpost.core.slot 0
      have h6 : M'.tm 0 = v := hpost.tm 0 (by omega) rfl
      rw [h6] at h5
      exact (h5.toDO o3).keep fun b q _ hq => ⟨rfl, owOut_at hq⟩
    · rw [List.getElem?_set_ne hij] at hy
      obtain ⟨K, h5, h6⟩ := hin j y u hy hu
      refine ⟨K, h5, h6.keep fun b q hb hq => ?_⟩
      have h0 : owIn t i M.ow b = none := owIn_none fun p hp => by
        rw [hq] at hp
        injection hp with hp
        injection hp with _ hp
        injection hp with hp _
        exact hij hp.symm
      have := old b hb h0
      exact ⟨this.1, this.2.trans hq⟩
  · have hk : M.loc k = some ad := hk
    obtain ⟨c1, c2, c3, k0, n0, c4, c5⟩ := h.cell k ad hk
    have := old _ (cell_lt c1) (cellO k ad hk)
    exact ⟨cell_same c1 this.1, (World.frozen?_of_block this.1).trans c2, c3, k0, n0, this.2.trans c4, c5⟩
  · have hq : owOut s i M.ow M'.ow b = some q := hq
    unfold owOut at hq
    split at hq
    · rename_i j p hm
      have := hpost.core.low b _ hm
      exact ⟨this.1, hpost.fn b this.2⟩
    · cases hq
    · split at hq
      · cases hq
      · have := h.low b q hq
        exact ⟨Nat.lt_of_lt_of_le this.1 hpost.kept.size, this.2⟩
theorem inner3_sound (hmF : F.m = m) (h : St Y w0 m Mp F.nv F.nc M σ a w) (hE : EnvOk P E) (hcl : CallOk P cl) {all : Array Oper} {Q : Exit → Act → World → Prop} {k : List AV → Option R} {r : R} {o1 o2 o3 : Oper} {rest : List Oper}
    (hn : ∀ M' σ' a' w', k σ' = some r → St Y w0 m Mp F.nv F.nc M' σ' a' w' → wpList P all Q rest a' w') (hk : inner3 E cl F o1 o2 o3 σ k = some r) : wpList P all Q (o1 :: o2 :: o3 :: rest) a w := by
  unfold inner3 at hk
  split at hk
  case h_2 => cases hk
  rename_i g1 g2 g3
  split at hk
  case h_2 => cases hk
  rename_i d1 t p d2 y hd1 ho1 hd2 ho2
  split at hk
  case h_2 => cases hk
  rename_i s i yz v d3 hp hsl hy hd3
  split at hk
  case h_2 => cases hk
  rename_i e L hs
  split at hk
  case h_2 => cases hk
  rename_i c ho3
  obtain ⟨cal, args2, tys⟩ := c
  simp only at hk
  split at hk
  case h_2 => cases hk
  rename_i al f a1 a2 hargs
  split at hk
  case h_2 => cases hk
  rename_i hc
  obtain ⟨hi, hk⟩ : Nat.blt i L.length = true ∧ _ = some r := by
    rcases br_some hk with h1 | ⟨_, h2⟩
    · exact h1
    · cases h2
  split at hk
  case h_2 => cases hk
  rename_i gg u e' K' hcall
  split at hk
  case h_2 => cases hk
  rename_i hok
  have hk' : gg = true ∧ k (setA ((setA (setA σ (F.nv + d1) .u) (F.nv + d2) (.p (.sc v))).set s (.own e (L.set i (.l K')))) (F.nv + d3) (.p (.sc u))) = some r := by
    rcases br_some hk with ⟨h1, h2⟩ | ⟨_, h2⟩
    · exact ⟨h1, h2⟩
    · cases h2
  obtain ⟨rfl, hk⟩ := hk'
  simp only [Bool.and_eq_true, Bool.not_eq_true'] at hc hok
  obtain ⟨⟨ha1, ha2, hd12⟩, hsn, hl1, hl2⟩ := hc
  obtain ⟨hok, hee⟩ := hok
  have ha1 := nbeq.1 ha1
  have ha2 := nbeq.1 ha2
  have hee := nbeq.1 hee
  subst ha1 ha2 hee
  have hd12 : a1 ≠ a2 := fun e => by rw [e, nbeq.2 rfl] at hd12; cases hd12
  rw [Nat.blt_eq] at hi hsn hl1 hl2
  have hl1 : a1 < a.tmps.size := by rw [h.len] at hl1; exact Nat.lt_of_add_lt_add_left hl1
  have hl2 : a2 < a.tmps.size := by rw [h.len] at hl2; exact Nat.lt_of_add_lt_add_left hl2
  obtain ⟨o1', o2', o3'⟩ := okDeep_spec hok
  have hev := (h.eval p).1
  rw [hp] at hev
  obtain ⟨_, g, n, cap, e2, e3, e4⟩ := hev
  have hDO := own_deep h.core hs
  obtain ⟨_, vs, q1, q2, q3⟩ := hDO.split o1'
  rw [o2', Nat.add_sub_cancel] at q3
  have hiv : i < vs.length := by omega
  obtain ⟨vv, hvi⟩ : ∃ vv, vs[i]? = some vv := ⟨_, List.getElem?_eq_getElem hiv⟩
  have hcell := q1.cells (g := g) (by rw [e2]; rfl) i vv hvi
  rw [Addr.add_lit, Nat.zero_add] at hcell
  obtain ⟨⟨e1, _⟩, _⟩ := hE.sl t yz.1 yz.2 hsl
  have run1 : (execOp a.eval o1).run P w = .ok (.value vv) w := by
    simp only [execOp, ho1, e4, Instr.loadAt, Instr.sureAddr, Sem.run_bind, Sem.run_pure, Result.andThen_ok, run_loadVar_one (isAgg_slice e1) hcell]
  have hst1 := h.setPlain (v := .u) (x := vv) (by simp) trivial a1
  unfold wpList
  rw [if_pos (by simp [Region.wanted, g1])]
  refine .inl (wp_val run1 ?_)
  rw [hd1]
  have hy1 : (a.put (some a1) vv).eval y = v.val := eval_sc hst1 hy
  have run2 : (execOp (a.put (some a1) vv).eval o2).run P w = .ok (.value v.val) w := by simp [execOp, ho2, hy1]
  have hst2 := hst1.setPlain (v := .p (.sc v)) (x := v.val) (by simp) rfl a2
  unfold wpList
  rw [if_pos (by simp [Region.wanted, g2])]
  refine .inl (wp_val run2 ?_)
  rw [hd2]
  unfold wpList
  rw [if_pos (by simp [Region.wanted, g3])]
  have hs1 : s ≠ F.nv + a1 := fun e => by rw [e] at hsn; exact absurd hsn (Nat.not_lt.2 (Nat.le_add_right _ _))
  have hs2 : s ≠ F.nv + a2 := fun e => by rw [e] at hsn; exact absurd hsn (Nat.not_lt.2 (Nat.le_add_right _ _))
  have hso : (setA (setA σ (F.nv + a1) .u) (F.nv + a2) (.p (.sc v))).getD s .u = .own e L := by
    rw [hst1.core.setA_getD, if_neg (fun hh => hs2 hh.1), h.core.setA_getD, if_neg (fun hh => hs1 hh.1), (ownD_both hs).1]
    rfl
  generalize hM2 : (M.upd (F.nv + a1) vv M.ow).upd (F.nv + a2) v.val (M.upd (F.nv + a1) vv M.ow).ow = M2 at hst2
  have hMt : M2.tm s = M.tm s := by
    rw [← hM2]
    show (if s = F.nv + a2 then _ else if s = F.nv + a1 then _ else M.tm s) = M.tm s
    rw [if_neg hs2, if_neg hs1]
  have hMo : M2.ow = M.ow := by rw [← hM2]; rfl
  have harg : args2 = #[.tmp a1, .tmp a2] := Array.toList_inj.1 hargs
  subst harg
  obtain ⟨⟨fn, hf, hb⟩, hcallP⟩ := (hcl f _ _ _ _ hcall).old rfl
  have hv1 : ((a.put (some a1) vv).put (some a2) v.val).eval (.tmp a1) = vv := by
    show ((a.tmps.setIfInBounds a1 vv).setIfInBounds a2 v.val).getD a1 undef = vv
    rw [agetD_set_other _ _ _ _ _ (Ne.symm hd12), agetD_set_same _ _ _ _ hl1]
  have hv2 : ((a.put (some a1) vv).put (some a2) v.val).eval (.tmp a2) = v.val := by
    show ((a.tmps.setIfInBounds a1 vv).setIfInBounds a2 v.val).getD a2 undef = v.val
    exact agetD_set_same _ _ _ _ (by rw [Array.size_setIfInBounds]; exact hl2)
  obtain ⟨K, hK1, hK2⟩ := q3 i _ vv (List.getElem?_eq_getElem hi) hvi
  have hget : lstOf (L.getD i (.l [])) = K := by
    have : L.getD i (.l []) = L[i] := by simp [List.getD, hi]
    rw [this, hK1]; rfl
  rw [hget] at hcallP
  have pre : Pre w (memIn s i M2 vv) [.own (inn e) K] [.p (.al 0), .p (.sc v)] [vv, v.val] := by
    refine ⟨hst2.core.innerPre (L := L) hok (by rw [hMo]; exact hK2), fun b hb => hst2.fresh b hb, fun k ad hk => (by cases hk), rfl, fun j av x hav hx => ?_⟩
    match j, hav, hx with
    | 0, hav, hx =>
      simp only [List.getElem?_cons_zero, Option.some.injEq] at hav hx
      subst hav hx
      exact ⟨⟨rfl, rfl⟩, by simp⟩
    | 1, hav, hx =>
      simp only [List.getElem?_cons_succ, List.getElem?_cons_zero, Option.some.injEq] at hav hx
      subst hav hx
      exact ⟨rfl, by simp⟩
    | j + 2, hav, _ => simp at hav
  have hc' := hcallP w _ _ pre
  have run3 : (execOp ((a.put (some a1) vv).put (some a2) v.val).eval o3).run P w = .ok (.enter f #[vv, v.val]) w := by
    have hev3 : ((a.put (some a1) vv).put (some a2) v.val).eval (.func f) = .func (.func f) #[] #[] := rfl
    simp only [execOp, ho3, resolve, hev3, Deferred.ofValue, Sem.run_bind, Sem.run_pure, Result.andThen_ok, invoke, Array.append_empty, Array.empty_append, List.map_toArray, List.map_cons, List.map_nil, hv1, hv2]
    rw [run_callFunc hf hb (hE.fn f fn hf hb)]
  left
  unfold Oper.wp
  rw [run3]
  refine hc'.mono fun ex w' hpost => ?_
  obtain ⟨xs, M', he, hpost⟩ := hpost
  subst he
  have hx : xs = [u.val] := by
    match xs, hpost.len with
    | [x], _ =>
      have := (hpost.res 0 _ x rfl rfl).1
      have : x = u.val := this
      rw [this]
  subst hx
  obtain ⟨hc3, hcc⟩ := hst2.core.innerPost (vs := vs) hok hso (by rw [hMt]; exact q1) q2 (by rw [hMt, hMo]; exact hDO.keys) (by rw [hMo]; exact q3) hvi hpost
  have hst3 := hst2.go (Z := fun b => ∃ q, owIn s i M2.ow b = some q) hc3 hpost.kept (fun b ⟨q, hq⟩ => by obtain ⟨p, hp, _⟩ := owIn_some hq; exact ⟨_, hp⟩) (fun b q hq => by
    have hq : owOut s i M2.ow M'.ow b = some q := hq
    unfold owOut at hq
    split at hq
    · rename_i j p hm
      rcases hpost.may b _ hm with ⟨q', hq'⟩ | h2
      · obtain ⟨p, hp, _⟩ := owIn_some hq'
        exact .inl ⟨_, hp⟩
      · exact .inr h2
    · cases hq
    · split at hq
      · cases hq
      · exact .inl ⟨q, hq⟩) (Stays.ow hcc) (a' := (a.put (some a1) vv).put (some a2) v.val) rfl rfl (by simp) hst2.tmp hst2.loc
  have hst4 := hst3.setPlain (v := .p (.sc u)) (x := u.val) (by simp) rfl d3
  show wpList P all Q rest (((a.put (some a1) vv).put (some a2) v.val).put o3.dst (packV [u.val])) w'
  rw [hd3]
  exact hn _ _ _ _ hk hst4
theorem goDeep_sound (hmF : F.m = m) (hE : EnvOk P E) (hcl : CallOk P cl) {all : Array Oper} {Q : Exit → Act → World → Prop} {k : List AV → Option R} {r : R}
    (hQ : ∀ M' σ' a' w', k σ' = some r → St Y w0 m Mp F.nv F.nc M' σ' a' w' → Q .normal a' w') :
    ∀ (n : Nat) (l : List Oper) (i : Nat) {M : Mem} {σ : List AV} {a : Act} {w : World}, St Y w0 m Mp F.nv F.nc M σ a w → goDeep E cl H F all n l i σ k = some r → wpList P all Q l a w
  | 0, [], _, _, _, _, _, _, hk => by cases hk
  | 0, [_], _, _, _, _, _, _, hk => by cases hk
  | 0, [_, _], _, _, _, _, _, _, hk => by cases hk
  | 0, o1 :: o2 :: o3 :: rest, i, M, σ, a, w, h, hk => inner3_sound hmF h hE hcl (fun M' σ' a' w' hk' hst => goOps_sound hmF hE hcl hQ rest (i + 3) hst hk') hk
  | _ + 1, [], _, _, _, _, _, _, hk => by cases hk
  | n + 1, o :: rest, i, M, σ, a, w, h, hk => guarded_sound hmF hE hcl h (fun M' σ' a' w' hk' hst => goDeep_sound hmF hE hcl hQ n rest (i + 1) hst hk') hk
end
end Go.Proofs.YtlnhommmmajllaaGreat.Ev
