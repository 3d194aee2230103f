/-
  EvMove: how the relation of slots to a world is kept where a row changes hands, is written, or grows.
-/
import Derived.Test.YtppgjmdncffecaaEvRel
import Derived.Maps.AppendAt
namespace Go.Proofs.Ytppgjmdncffecaa.Ev
open Go Go.RowKit

theorem put_self (a : Act) (s : Nat) : a.put (some s) (a.tmps.getD s undef) = a := by
  cases a with
  | mk tm df =>
    simp only [Act.put, Act.mk.injEq, and_true]
    apply Array.ext_getElem?
    intro i
    by_cases h : s = i
    · subst h
      by_cases hs : s < tm.size
      · rw [Array.getElem?_setIfInBounds_self_of_lt hs, Array.getElem?_eq_getElem hs]; simp [Array.getD, hs]
      · rw [Array.getElem?_setIfInBounds_self]; simp [hs]
    · rw [Array.getElem?_setIfInBounds_ne h]

section
variable {B : Nat} {w0 w w' : World} {own : Own} {σ : List AV} {a : Act}

theorem Below.refl' (w : World) : Below w.heap.size w w := Below.refl _ _

theorem St.clear1 (h : St B w0 own σ a w) (s : Nat) : St B w0 (ownSet own s none) (setA σ s .u) a w := by
  have := h.set (Below.refl' w) (v := .u) (x := a.tmps.getD s undef) trivial s
  rw [put_self] at this
  exact this

theorem St.clear : ∀ (ks : List Nat) {own : Own} {σ : List AV}, St B w0 own σ a w → ∃ own', St B w0 own' (Ev.clear ks σ) a w
  | [], own, _, h => ⟨own, h⟩
  | s :: ks, _, _, h => St.clear ks (h.clear1 s)

theorem getD_setA_other (h : St B w0 own σ a w) (d t : Nat) (v : AV) (ht : t ≠ d) : (setA σ d v).getD t .u = drop1 d (σ.getD t .u) := by
  unfold setA
  rw [getD_set_other _ _ _ _ _ (Ne.symm ht), h.kill d t]

theorem Xo_sub {own own' : Own} (h : ∀ s b, own' s = some b → ∃ t, own t = some b) (b : Nat) : Xo own' b → Xo own b := fun ⟨s, hs⟩ => h s b hs

/-- The row of slot s has been written (or has moved): what all other slots say is kept; slot s is laid aside. -/
theorem GS_other (h : St B w0 own σ a w) {s d t : Nat} {own' : Own} {σ' : List AV} {tm' : Array Value} {e0 : TypeId} {L0 : List Sc} (_hs : σ.getD s .u = .own e0 L0) (hts : t ≠ s) (htd : t ≠ d)
    (hag : Agree (fun b => own s = some b) w w')
    (hX : ∀ b, b < w.heap.size → Xo own' b → Xo own b)
    (hown : own' t = own t)
    (hk : ∀ q e L, q ≠ s → q ≠ d → σ.getD q .u = .own e L → σ'.getD q .u = .own e L)
    (htm : ∀ q, q ≠ d → tm'.getD q undef = a.tmps.getD q undef) (ht : t < σ.length) :
    GS B own' σ' tm' w' t (drop1 d (drop1 s (σ.getD t .u))) (tm'.getD t undef) := by
  rw [htm t htd]
  have hag' : Agree (Xo own) w w' := fun b hb hx => hag b hb fun hsb => hx ⟨s, hsb⟩
  have hsl := h.slot t ht
  cases hv : σ.getD t .u with
  | own e L =>
    rw [hv] at hsl
    obtain ⟨h1, h2⟩ := hsl
    refine ⟨ownsRow_keep h1 fun b hb => hag b (ownBlock_lt h1 hb).2 fun hsb => hts ?_, by rw [hown]; exact h2⟩
    exact h.inj t s b (by rw [h2]; exact hb) hsb
  | al q =>
    rw [hv] at hsl
    obtain ⟨e, L, h1, h2⟩ := hsl
    by_cases hqs : q = s
    · subst hqs; rw [drop1_al]; trivial
    · rw [drop1_al_ne hqs]
      by_cases hqd : q = d
      · subst hqd; rw [drop1_al]; trivial
      · rw [drop1_al_ne hqd]
        exact ⟨e, L, hk q e L hqs hqd h1, (htm q hqd).trans h2⟩
  | ep q i =>
    rw [hv] at hsl
    obtain ⟨e, L, g, cap, h1, h2, h3, h4⟩ := hsl
    by_cases hqs : q = s
    · subst hqs; rw [drop1_ep]; trivial
    · rw [drop1_ep_ne hqs]
      by_cases hqd : q = d
      · subst hqd; rw [drop1_ep]; trivial
      · rw [drop1_ep_ne hqd]
        exact ⟨e, L, g, cap, hk q e L hqs hqd h1, (htm q hqd).trans h2, h3, h4⟩
  | _ => rw [hv] at hsl; exact G.keep hag' hX hsl

/-- append onto the row of slot s; what comes back is laid into slot d. -/
theorem St.grow (h : St B w0 own σ a w) {s d : Nat} {e : TypeId} {L L' : List Sc} {v' : Value} (hs : σ.getD s .u = .own e L) (hls : s < σ.length)
    (hown : w'.ownsRow B e 1 v' L'.length (L'.map Sc.val)) (hg : w.grownBy w' (a.tmps.getD s undef).ownBlock)
    (hb : v'.ownBlock = (a.tmps.getD s undef).ownBlock ∨ v'.ownBlock = some w.heap.size) :
    ∃ own', St B w0 own' (setA (setA σ s .u) d (.own e L')) (a.put (some d) v') w' := by
  have hsl := h.slot s hls
  rw [hs] at hsl
  obtain ⟨hs1, hs2⟩ := hsl
  have h1 := h.clear1 s
  have hlt : ∀ b, v'.ownBlock = some b → B ≤ b ∧ b < w'.heap.size := fun b hb => ownBlock_lt hown hb
  have hnew : ∀ b, v'.ownBlock = some b → own s = some b ∨ b = w.heap.size := by
    intro b hb'
    rcases hb with hb | hb
    · left; rw [hs2, ← hb]; exact hb'
    · right; rw [hb] at hb'; injection hb' with hb'; exact hb'.symm
  let own' : Own := fun t => if t = d then v'.ownBlock else if t = s then none else own t
  have hag : Agree (fun b => own s = some b) w w' := fun b hb hx => hg.block b hb fun e => hx (hs2.trans e.symm)
  have hX : ∀ b, b < w.heap.size → Xo own' b → Xo own b := by
    rintro b hb' ⟨t, ht⟩
    simp only [own'] at ht
    split at ht
    · rcases hnew b ht with h' | h'
      · exact ⟨s, h'⟩
      · omega
    · split at ht
      · cases ht
      · exact ⟨t, ht⟩
  have hbel : Below B w w' := ⟨hg.os, hg.tape, hg.output, hg.size, fun k hk => hg.block k (Nat.lt_of_lt_of_le hk h.base) fun e => by have := (h.old s k (by rw [hs2, ← e])).1; omega⟩
  have look : ∀ t, t ≠ d → t ≠ s → (setA (setA σ s .u) d (.own e L')).getD t .u = drop1 d (drop1 s (σ.getD t .u)) := fun t htd hts => by
    rw [getD_setA_other h1 d t _ htd, getD_setA_other h s t _ hts]
  have lookv : ∀ t, t ≠ d → (a.put (some d) v').tmps.getD t undef = a.tmps.getD t undef := fun t ht => agetD_set_other _ _ _ _ _ (Ne.symm ht)
  refine ⟨own', h.bel.trans hbel, Nat.le_trans h.base hg.size, h.dfr, ?_, ?_, ?_, ?_⟩
  · simp [Act.put, setA_length, h.size]
  · intro p q b hp hq
    simp only [own'] at hp hq
    split at hp <;> split at hq
    · simp_all
    · split at hq
      · cases hq
      · rcases hnew b hp with h' | h'
        · have := h.inj s q b h' hq; simp_all
        · have := (h.old q b hq).2; omega
    · split at hp
      · cases hp
      · rcases hnew b hq with h' | h'
        · have := h.inj s p b h' hp; simp_all
        · have := (h.old p b hp).2; omega
    · split at hp
      · cases hp
      · split at hq
        · cases hq
        · exact h.inj p q b hp hq
  · intro p b hp
    simp only [own'] at hp
    split at hp
    · exact hlt b hp
    · split at hp
      · cases hp
      · have := h.old p b hp; exact ⟨this.1, Nat.lt_of_lt_of_le this.2 hg.size⟩
  · intro t ht
    simp only [setA_length] at ht
    by_cases htd : t = d
    · subst htd
      have e1 : (setA (setA σ s .u) t (.own e L')).getD t .u = .own e L' := by
        show ((Ev.kill t _).set t _).getD t _ = _
        exact getD_set_same _ _ _ _ (by simpa [kill_length, setA_length] using ht)
      have e2 : (a.put (some t) v').tmps.getD t undef = v' := agetD_set_same _ _ _ _ (by rw [h.size]; exact ht)
      rw [e1, e2]
      exact ⟨hown, by simp [own']⟩
    · by_cases hts : t = s
      · subst hts
        have e1 : (setA (setA σ t .u) d (.own e L')).getD t .u = .u := by
          rw [getD_setA_other h1 d t _ htd]
          have : (setA σ t .u).getD t .u = .u := by
            show ((Ev.kill t _).set t _).getD t _ = _
            exact getD_set_same _ _ _ _ (by simpa [kill_length] using ht)
          rw [this]; rfl
        rw [e1]; trivial
      · rw [look t htd hts]
        refine GS_other h hs hts htd hag hX (by simp [own', htd, hts]) (fun q e L hqs hqd hq => by rw [look q hqd hqs, hq]; rfl) lookv ht

/-- A store into the row of slot s. -/
theorem St.store (h : St B w0 own σ a w) {s i g cap : Nat} {e : TypeId} {L : List Sc} (y : Sc) (hs : σ.getD s .u = .own e L) (hls : s < σ.length) (hv : a.tmps.getD s undef = .slice (some ⟨g, 0, none⟩) L.length cap) :
    St B w0 own (σ.set s (.own e (L.set i y))) a (w.setCell ⟨g, i, none⟩ y.val) := by
  have hsl := h.slot s hls
  rw [hs, hv] at hsl
  obtain ⟨hs1, hs2⟩ := hsl
  obtain ⟨hr, hg⟩ := hs1.stored i y.val
  have hsg : own s = some g := hs2
  have hold := h.old s g hsg
  have hag : Agree (fun b => own s = some b) w (w.setCell ⟨g, i, none⟩ y.val) := fun b hb hx => hg.block b hb fun e' => hx (hsg.trans e'.symm)
  refine ⟨h.bel.setCell hold.1 _, Nat.le_trans h.base hg.size, h.dfr, by simp [h.size], h.inj, fun q b hq => ⟨(h.old q b hq).1, Nat.lt_of_lt_of_le (h.old q b hq).2 hg.size⟩, ?_⟩
  intro t ht
  simp only [List.length_set] at ht
  by_cases hts : t = s
  · subst hts
    rw [getD_set_same _ _ _ _ ht, hv]
    refine ⟨?_, hs2⟩
    rw [List.length_set, List.map_set]
    exact hr
  · rw [getD_set_other _ _ _ _ _ (Ne.symm hts)]
    have hag' : Agree (Xo own) w (w.setCell ⟨g, i, none⟩ y.val) := fun b hb hx => hag b hb fun hsb => hx ⟨s, hsb⟩
    have hsl := h.slot t ht
    cases hvt : σ.getD t .u with
    | own e' L' =>
      rw [hvt] at hsl
      obtain ⟨h1, h2⟩ := hsl
      exact ⟨ownsRow_keep h1 fun b hb => hag b (ownBlock_lt h1 hb).2 fun hsb => hts (h.inj t s b (by rw [h2]; exact hb) hsb), h2⟩
    | al q =>
      rw [hvt] at hsl
      obtain ⟨e', L', h1, h2⟩ := hsl
      by_cases hqs : q = s
      · subst hqs
        exact ⟨e, _, getD_set_same _ _ _ _ hls, h2⟩
      · exact ⟨e', L', by rw [getD_set_other _ _ _ _ _ (Ne.symm hqs)]; exact h1, h2⟩
    | ep q j =>
      rw [hvt] at hsl
      obtain ⟨e', L', g', cap', h1, h2, h3, h4⟩ := hsl
      by_cases hqs : q = s
      · subst hqs
        rw [hs] at h1
        injection h1 with h1 h1'
        subst h1'
        exact ⟨e, _, g', cap', getD_set_same _ _ _ _ hls, by rw [List.length_set]; exact h2, by rw [List.length_set]; exact h3, h4⟩
      · exact ⟨e', L', g', cap', by rw [getD_set_other _ _ _ _ _ (Ne.symm hqs)]; exact h1, h2, h3, h4⟩
    | _ => rw [hvt] at hsl; exact G.keep hag' (fun _ _ hb => hb) hsl

theorem redir1_al (s d : Nat) : redir1 s d (.al s) = .al d := by simp [redir1]
theorem redir1_ep (s d i : Nat) : redir1 s d (.ep s i) = .ep d i := by simp [redir1]
theorem beq_ne {q s : Nat} (h : q ≠ s) : Nat.beq q s = false := by cases hb : Nat.beq q s with | false => rfl | true => exact absurd (Nat.eq_of_beq_eq_true hb) h
theorem redir1_al_ne {q s d : Nat} (h : q ≠ s) : redir1 s d (.al q) = .al q := by simp [redir1, beq_ne h]
theorem redir1_ep_ne {q s d i : Nat} (h : q ≠ s) : redir1 s d (.ep q i) = .ep q i := by simp [redir1, beq_ne h]

/-- The row of slot s goes over to slot d. -/
theorem St.move (h : St B w0 own σ a w) {s d : Nat} {e : TypeId} {L : List Sc} (hs : σ.getD s .u = .own e L) (hls : s < σ.length) (hsd : s ≠ d) (hld : d < σ.length) :
    ∃ own', St B w0 own' (moveOwn σ s d e L) (a.put (some d) (a.tmps.getD s undef)) w := by
  have hsl := h.slot s hls
  rw [hs] at hsl
  obtain ⟨hs1, hs2⟩ := hsl
  let own' : Own := fun t => if t = d then own s else if t = s then none else own t
  have look : ∀ t, t ≠ d → t ≠ s → (moveOwn σ s d e L).getD t .u = redir1 s d (drop1 d (σ.getD t .u)) := fun t htd hts => by
    unfold moveOwn
    rw [getD_set_other _ _ _ _ _ (Ne.symm htd), getD_set_other _ _ _ _ _ (Ne.symm hts), getD_map _ _ rfl, h.kill d t]
  have lookd : (moveOwn σ s d e L).getD d .u = .own e L := by
    unfold moveOwn
    exact getD_set_same _ _ _ _ (by simpa [kill_length] using hld)
  have looks : (moveOwn σ s d e L).getD s .u = .al d := by
    unfold moveOwn
    rw [getD_set_other _ _ _ _ _ (Ne.symm hsd)]
    exact getD_set_same _ _ _ _ (by simpa [kill_length] using hls)
  have lookv : ∀ t, t ≠ d → (a.put (some d) (a.tmps.getD s undef)).tmps.getD t undef = a.tmps.getD t undef := fun t ht => agetD_set_other _ _ _ _ _ (Ne.symm ht)
  have lookvd : (a.put (some d) (a.tmps.getD s undef)).tmps.getD d undef = a.tmps.getD s undef := agetD_set_same _ _ _ _ (by rw [h.size]; exact hld)
  have ownAt : ∀ q e' L', q ≠ d → q ≠ s → σ.getD q .u = .own e' L' → (moveOwn σ s d e L).getD q .u = .own e' L' := fun q e' L' hqd hqs hq => by rw [look q hqd hqs, hq]; rfl
  have hX : ∀ b, b < w.heap.size → Xo own' b → Xo own b := by
    rintro b _ ⟨t, ht⟩
    simp only [own'] at ht
    split at ht
    · exact ⟨s, ht⟩
    · split at ht
      · cases ht
      · exact ⟨t, ht⟩
  refine ⟨own', h.bel, h.base, h.dfr, by simp [Act.put, moveOwn, kill_length, h.size], ?_, ?_, ?_⟩
  · intro p q b hp hq
    simp only [own'] at hp hq
    split at hp <;> split at hq
    · simp_all
    · split at hq
      · cases hq
      · have := h.inj s q b hp hq; simp_all
    · split at hp
      · cases hp
      · have := h.inj s p b hq hp; simp_all
    · split at hp
      · cases hp
      · split at hq
        · cases hq
        · exact h.inj p q b hp hq
  · intro p b hp
    simp only [own'] at hp
    split at hp
    · exact h.old s b hp
    · split at hp
      · cases hp
      · exact h.old p b hp
  · intro t ht
    have ht : t < σ.length := by simpa [moveOwn, kill_length] using ht
    by_cases htd : t = d
    · subst htd
      rw [lookd, lookvd]
      exact ⟨hs1, by simp only [own', if_true]; exact hs2⟩
    · by_cases hts : t = s
      · subst hts
        rw [looks, lookv t htd]
        exact ⟨e, L, lookd, lookvd⟩
      · rw [look t htd hts, lookv t htd]
        have hsl := h.slot t ht
        cases hv : σ.getD t .u with
        | own e' L' =>
          rw [hv] at hsl
          exact ⟨hsl.1, by simp only [own', htd, hts, if_false]; exact hsl.2⟩
        | al q =>
          rw [hv] at hsl
          obtain ⟨e', L', h1, h2⟩ := hsl
          by_cases hqd : q = d
          · subst hqd; rw [drop1_al]; trivial
          · rw [drop1_al_ne hqd]
            by_cases hqs : q = s
            · subst hqs; rw [redir1_al]; exact ⟨e, L, lookd, lookvd.trans h2⟩
            · rw [redir1_al_ne hqs]; exact ⟨e', L', ownAt q e' L' hqd hqs h1, (lookv q hqd).trans h2⟩
        | ep q i =>
          rw [hv] at hsl
          obtain ⟨e', L', g, cap, h1, h2, h3, h4⟩ := hsl
          by_cases hqd : q = d
          · subst hqd; rw [drop1_ep]; trivial
          · rw [drop1_ep_ne hqd]
            by_cases hqs : q = s
            · subst hqs
              rw [hs] at h1; injection h1 with h1 h1'; subst h1'
              rw [redir1_ep]; exact ⟨e, L, g, cap, lookd, lookvd.trans h2, h3, h4⟩
            · rw [redir1_ep_ne hqs]; exact ⟨e', L', g, cap, ownAt q e' L' hqd hqs h1, (lookv q hqd).trans h2, h3, h4⟩
        | _ => rw [hv] at hsl; exact G.keep (Agree.refl _ w) hX hsl

theorem share1_al (s : Nat) (e : TypeId) (L : List Sc) : share1 s e L (.al s) = .fr e L := by simp [share1]
theorem share1_ep (s i : Nat) (e : TypeId) (L : List Sc) : share1 s e L (.ep s i) = .ev (L.getD i dflt) := by simp [share1]
theorem share1_al_ne {q s : Nat} (e : TypeId) (L : List Sc) (h : q ≠ s) : share1 s e L (.al q) = .al q := by simp [share1, beq_ne h]
theorem share1_ep_ne {q s i : Nat} (e : TypeId) (L : List Sc) (h : q ≠ s) : share1 s e L (.ep q i) = .ep q i := by simp [share1, beq_ne h]

theorem Rd_of_own {B : Nat} {e : TypeId} {L : List Sc} {X : Nat → Prop} {A : Option Addr} {n c : Nat} (h : w.ownsRow B e 1 (.slice A n c) L.length (L.map Sc.val)) (hX : ∀ b, (Value.slice A n c).ownBlock = some b → ¬ X b) : n = L.length ∧ L.length ≤ c ∧ Rd w X A L := by
  have hcells := fun g => h.cells (g := g)
  rcases h.2 with ⟨h1, h2⟩ | ⟨g, cap, cur, h1, h2, h3, h4, _⟩
  · simp only [Value.slice.injEq] at h1
    obtain ⟨rfl, rfl, rfl⟩ := h1
    have : L = [] := List.eq_nil_of_length_eq_zero h2
    subst this
    exact ⟨rfl, Nat.le_refl _, .inl rfl⟩
  · simp only [Value.slice.injEq] at h1
    obtain ⟨rfl, rfl, rfl⟩ := h1
    refine ⟨rfl, h4, .inr ⟨⟨g, 0, none⟩, rfl, hX g rfl, fun j x hj => ?_⟩⟩
    exact hcells g rfl j x.val (by simp [hj])

theorem ownsRow_slice {B : Nat} {e : TypeId} {v : Value} {n : Nat} {xs : List Value} (h : w.ownsRow B e 1 v n xs) : ∃ A c, v = .slice A n c := by
  rcases h.2 with ⟨h1, h2⟩ | ⟨g, cap, cur, h1, _⟩
  · exact ⟨none, 0, by rw [h1, h2]⟩
  · exact ⟨_, _, h1⟩

/-- The row of slot s is from now on only read. -/
theorem St.share (h : St B w0 own σ a w) {s : Nat} {e : TypeId} {L : List Sc} (hs : σ.getD s .u = .own e L) (hls : s < σ.length) :
    St B w0 (ownSet own s none) (Ev.share σ s e L) a w ∧ ∃ A c, a.tmps.getD s undef = .slice A L.length c ∧ L.length ≤ c ∧ Rd w (Xo (ownSet own s none)) A L := by
  have hsl := h.slot s hls
  rw [hs] at hsl
  obtain ⟨hs1, hs2⟩ := hsl
  obtain ⟨A, c, hv⟩ := ownsRow_slice hs1
  rw [hv] at hs1 hs2
  have hXn : ∀ b, (Value.slice A L.length c).ownBlock = some b → ¬ Xo (ownSet own s none) b := by
    rintro b hb ⟨q, hq⟩
    unfold ownSet at hq
    split at hq
    · cases hq
    · rename_i hqs
      exact hqs (h.inj q s b hq (by rw [hs2]; exact hb))
  obtain ⟨_, hc, hrd⟩ := Rd_of_own hs1 hXn
  have hX : ∀ b, b < w.heap.size → Xo (ownSet own s none) b → Xo own b := by
    rintro b _ ⟨q, hq⟩
    unfold ownSet at hq
    split at hq
    · cases hq
    · exact ⟨q, hq⟩
  have look : ∀ t, t ≠ s → (Ev.share σ s e L).getD t .u = share1 s e L (σ.getD t .u) := fun t hts => by
    unfold Ev.share
    rw [getD_set_other _ _ _ _ _ (Ne.symm hts), getD_map _ _ rfl]
  refine ⟨⟨h.bel, h.base, h.dfr, by simp [Ev.share, h.size], ?_, ?_, ?_⟩, A, c, hv, hc, hrd⟩
  · intro p q b hp hq
    unfold ownSet at hp hq
    split at hp <;> split at hq <;> first | cases hp | cases hq | exact h.inj p q b hp hq
  · intro p b hp
    unfold ownSet at hp
    split at hp
    · cases hp
    · exact h.old p b hp
  · intro t ht
    have ht' : t < σ.length := by simpa [Ev.share] using ht
    clear ht
    by_cases hts : t = s
    · subst hts
      have e1 : (Ev.share σ t e L).getD t .u = .fr e L := by
        unfold Ev.share
        exact getD_set_same _ _ _ _ (by simpa using ht')
      rw [e1, hv]
      exact ⟨hs1, hXn⟩
    · rw [look t hts]
      have hsl := h.slot t ht'
      cases hvt : σ.getD t .u with
      | own e' L' =>
        rw [hvt] at hsl
        exact ⟨hsl.1, by unfold ownSet; rw [if_neg hts]; exact hsl.2⟩
      | al q =>
        rw [hvt] at hsl
        obtain ⟨e', L', h1, h2⟩ := hsl
        by_cases hqs : q = s
        · subst hqs
          rw [share1_al, ← h2, hv]
          rw [hs] at h1; injection h1 with h1 h1'; subst h1; subst h1'
          exact ⟨hs1, hXn⟩
        · rw [share1_al_ne _ _ hqs]
          exact ⟨e', L', by rw [look q hqs, h1]; rfl, h2⟩
      | ep q i =>
        rw [hvt] at hsl
        obtain ⟨e', L', g, cap, h1, h2, h3, h4⟩ := hsl
        by_cases hqs : q = s
        · subst hqs
          rw [hs] at h1; injection h1 with h1 h1'; subst h1'
          rw [share1_ep, h4]
          rw [hv] at h2
          simp only [Value.slice.injEq] at h2
          obtain ⟨rfl, _, rfl⟩ := h2
          have hcell := hs1.cells (g := g) rfl i (L.getD i dflt).val (by simp [List.getD, h3])
          exact ⟨⟨g, i, none⟩, rfl, hXn g rfl, by simpa [Addr.add_lit] using hcell⟩
        · rw [share1_ep_ne _ _ hqs]
          exact ⟨e', L', g, cap, by rw [look q hqs, h1]; rfl, h2, h3, h4⟩
      | _ => rw [hvt] at hsl; exact G.keep (Agree.refl _ w) hX hsl
/-- All rows are shared out. -/
theorem St.shareAll (h : St B w0 own σ a w) : St B w0 (fun _ => none) (Ev.shareAll σ) a w := by
  have hX : ∀ b, b < w.heap.size → Xo (fun _ => none) b → Xo own b := fun b _ ⟨q, hq⟩ => by cases hq
  have hno : ∀ b, ¬ Xo (fun _ => none) b := fun b ⟨q, hq⟩ => by cases hq
  refine ⟨h.bel, h.base, h.dfr, by simp [Ev.shareAll, h.size], fun _ _ _ hp => (by cases hp), fun _ _ hp => (by cases hp), fun t ht => ?_⟩
  have ht' : t < σ.length := by simpa [Ev.shareAll] using ht
  have hsl := h.slot t ht'
  have look : (Ev.shareAll σ).getD t .u = shareA σ (σ.getD t .u) := by unfold Ev.shareAll; exact getD_map _ _ rfl _
  have ofOwn : ∀ {q : Nat} {e : TypeId} {L : List Sc}, σ.getD q .u = .own e L → q < σ.length := fun {q e L} hq => by
    rcases Nat.lt_or_ge q σ.length with hl | hl
    · exact hl
    · simp [List.getD, List.getElem?_eq_none hl] at hq
  rw [look]
  cases hvt : σ.getD t .u with
  | own e' L' =>
    rw [hvt] at hsl
    exact ⟨hsl.1, fun b _ => hno b⟩
  | al q =>
    rw [hvt] at hsl
    obtain ⟨e', L', h1, h2⟩ := hsl
    have hq := h.slot q (ofOwn h1)
    rw [h1] at hq
    simp only [shareA, ownOf, h1]
    rw [← h2]
    exact ⟨hq.1, fun b _ => hno b⟩
  | ep q i =>
    rw [hvt] at hsl
    obtain ⟨e', L', g, cap, h1, h2, h3, h4⟩ := hsl
    have hq := h.slot q (ofOwn h1)
    rw [h1, h2] at hq
    simp only [shareA, ownOf, h1]
    rw [h4]
    have hcell := hq.1.cells (g := g) rfl i (L'.getD i dflt).val (by simp [List.getD, h3])
    exact ⟨⟨g, i, none⟩, rfl, hno g, by simpa [Addr.add_lit] using hcell⟩
  | _ => rw [hvt] at hsl; exact G.keep (Agree.refl _ w) hX hsl
end
end Go.Proofs.Ytppgjmdncffecaa.Ev
