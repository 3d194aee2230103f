/-
  VMove: how the relation of slots to a memory is kept where a row changes hands, is written, is laid open; new variables.
-/
import Derived.Test.YtlnhommmmajllaaGreatVRel
import Derived.Maps.AppendAt
set_option linter.unusedVariables false
namespace Go.Proofs.YtlnhommmmajllaaGreat.Ev
open Go Go.RowKit
theorem heap_set_ne (w : World) (a : Addr) (v : Value) {k : Nat} (h : k ≠ a.block) : (w.setCell a v).heap[k]? = w.heap[k]? := Below.heap_setCell _ _ _ _ h
theorem size_setCell (w : World) (a : Addr) (v : Value) : (w.setCell a v).heap.size = w.heap.size := by simp [World.setCell]
theorem cell_set_other (w : World) (a a' : Addr) (v : Value) (h : a'.block ≠ a.block ∨ a'.off ≠ a.off) : (w.setCell a v).cell? a' = w.cell? a' ∧ (w.setCell a v).frozen? a' = w.frozen? a' := by
  by_cases hb : a'.block = a.block
  · have ho : a.off ≠ a'.off := fun e => by rcases h with h | h; exact h hb; exact h e.symm
    simp only [World.cell?, World.frozen?, World.setCell, Array.getElem?_modify, hb, if_pos]
    cases w.heap[a.block]? with
    | none => simp
    | some o =>
      cases o <;> simp
      by_cases hs : a.spot.isSome <;> simp [hs]
      rw [Array.getElem?_setIfInBounds_ne ho]
  · exact ⟨World.cell?_of_block (heap_set_ne w a v hb), World.frozen?_of_block (heap_set_ne w a v hb)⟩
theorem cell_set_same {w : World} {a : Addr} {v u : Value} (h : w.cell? a = some u) (hs : a.spot = none) : (w.setCell a v).cell? a = some v ∧ (w.setCell a v).frozen? a = w.frozen? a := by
  unfold World.cell? at h
  split at h
  · rename_i c e f hb
    simp only [hs, Option.isSome_none, Bool.false_eq_true, if_false] at h
    have hlt : a.off < c.size := (Array.getElem?_eq_some_iff.1 h).1
    simp only [World.cell?, World.frozen?, World.setCell, Array.getElem?_modify, if_pos, hb, Option.map_some, hs]
    simp [hlt]
  · cases h
section
variable {M M' : Mem} {w w' : World} {σ σ' : List AV}
theorem Core.fz_not (h : Core σ M w) {b : Nat} {q : Key} (hb : M.ow b = some q) : ¬ M.fz b := fun hf => by rw [hf.2] at hb; cases hb
theorem Core.grow (h : Core σ M w) (hg : Below w.heap.size w w') : Core σ M w' := by
  refine ⟨fun t => GS.keep (fun s _ hr => ⟨hr, rfl⟩) (fun _ _ _ hk => ⟨hk, rfl⟩) (fun b hb hf => ⟨hg.block b hb, hf⟩) (fun b p hb hp => ⟨hg.block b hb, hp⟩) (fun _ hb => hb) h.sub (h.slot t), fun k ad hk => ?_, fun b q hb => ⟨Nat.lt_of_lt_of_le (h.low b q hb).1 hg.size, (h.low b q hb).2⟩, h.sub⟩
  obtain ⟨h1, h2, h3⟩ := h.cell k ad hk
  exact ⟨cell_same h1 (hg.block _ (cell_lt h1)), (World.frozen?_of_block (hg.block _ (cell_lt h1))).trans h2, h3⟩
def NV (M : Mem) (w w' : World) (σ : List AV) : AV → Value → Prop
  | .own e L, x => Row w' (fun b => M.fz b ∧ b < w.heap.size) w.heap.size e x L ∧ dp e = false
  | v, x => GS M w' σ 0 v x
theorem NV_of {v : AV} {x : Value} (hno : ∀ e L, v ≠ .own e L) (h : GS M w' σ 0 v x) : NV M w w' σ v x := by
  cases v <;> first | exact h | exact absurd rfl (hno _ _)
theorem Core.putNew (h : Core σ M w) (hg : Below w.heap.size w w') {v : AV} {x : Value} (hv : NV M w w' σ v x) (d : Nat) (hd : M.loc d = none) (hfn : ∀ b, w.heap.size ≤ b → M.fn b) :
    ∃ ow', Core (setA σ d v) (M.upd d x ow') w' ∧ (∀ b q, ow' b = some q → (∃ q', M.ow b = some q') ∨ w.heap.size ≤ b) ∧ ∀ k ad, M.loc k = some ad → ow' ad.block = M.ow ad.block := by
  have hcells : ∀ (ow' : Nat → Option Key), (∀ b, b < w.heap.size → ow' b = M.ow b) → ∀ k ad, M.loc k = some ad → w'.cell? ad = some (if k = d then x else M.tm k) ∧ w'.frozen? ad = false ∧ ow' ad.block = M.ow ad.block := by
    intro ow' how k ad hk
    obtain ⟨h1, h2, h3⟩ := h.cell k ad hk
    have hkd : k ≠ d := fun e => by subst e; rw [hd] at hk; cases hk
    rw [if_neg hkd]
    exact ⟨cell_same h1 (hg.block _ (cell_lt h1)), (World.frozen?_of_block (hg.block _ (cell_lt h1))).trans h2, how _ (cell_lt h1)⟩
  by_cases hown : ∃ e L, v = .own e L
  · obtain ⟨e, L, rfl⟩ := hown
    have hv : Row w' (fun b => M.fz b ∧ b < w.heap.size) w.heap.size e x L ∧ dp e = false := hv
    obtain ⟨hv, hdp⟩ := hv
    have hlow : ∀ b, x.ownBlock = some b → w.heap.size ≤ b ∧ b < w'.heap.size := fun b hb => hv.lt hb
    refine ⟨fun b => if x.ownBlock = some b then some (.r d []) else M.ow b, Core.put h d _ x _ (fun b hb hf => ⟨hg.block b hb, ?_⟩) (fun b t p hb ht hp => ⟨hg.block b hb, ?_⟩) (hcells (fun b => if x.ownBlock = some b then some (.r d []) else M.ow b) fun b hb => ?_) (fun b q hb => ?_) (fun _ => (RowO.flat hdp).2 ⟨(hv.keep (fun _ _ => rfl) (fun _ b hb hz => ⟨rfl, hz.1.1, by show (if x.ownBlock = some b then some (Key.r d []) else M.ow b) = none; rw [if_neg (fun e' => by have := (hlow b e').1; have := hz.2; omega)]; exact hz.1.2⟩)).mono (Nat.zero_le _), fun b hb => ?_⟩), fun b q hb => ?_, fun k ad hk => ?_⟩
    · rw [if_neg (fun e' => by have := (hlow b e').1; omega)]; exact hf.2
    · rw [if_neg (fun e' => by have := (hlow b e').1; omega)]; exact hp
    · rw [if_neg (fun e' => by have := (hlow b e').1; omega)]
    · split at hb
      · rename_i hx; exact ⟨(hlow b hx).2, hfn b (hlow b hx).1⟩
      · exact ⟨Nat.lt_of_lt_of_le (h.low b q hb).1 hg.size, (h.low b q hb).2⟩
    · show (if x.ownBlock = some b then some (Key.r d []) else M.ow b) = _
      rw [if_pos hb]
    · have hb : (if x.ownBlock = some b then some (Key.r d []) else M.ow b) = some q := hb
      split at hb
      · rename_i hx; exact .inr (hlow b hx).1
      · exact .inl ⟨q, hb⟩
    · exact if_neg (fun e' => by have := (hlow _ e').1; have := cell_lt (h.cell k ad hk).1; omega)
  · have hno : ∀ e L, v ≠ .own e L := fun e L he => hown ⟨e, L, he⟩
    have hv' : GS M w' σ 0 v x := by cases v <;> first | exact hv | exact absurd rfl (hno _ _)
    refine ⟨M.ow, Core.put h d v x M.ow (fun b hb hf => ⟨hg.block b hb, hf.2⟩) (fun b t p hb _ hp => ⟨hg.block b hb, hp⟩) (hcells _ fun _ _ => rfl) (fun b q hb => ⟨Nat.lt_of_lt_of_le (h.low b q hb).1 hg.size, (h.low b q hb).2⟩) (fun hv2 => ?_), fun b q hb => .inl ⟨q, hb⟩, fun _ _ _ => rfl⟩
    exact GS.put (h.grow hg) hv' hv2 hno (fun b _ hf => ⟨rfl, hf.2⟩) (fun _ _ _ => rfl)
theorem Core.putCell (h : Core σ M w) {k : Nat} {ad : Addr} (hk : M.loc k = some ad) {v : AV} {x : Value} (hno : ∀ e L, v ≠ .own e L) (hv : GS M w σ 0 v x) :
    Core (setA σ k v) (M.upd k x M.ow) (w.setCell ad x) := by
  obtain ⟨c1, c2, c3, k0, n0, c4, c5⟩ := h.cell k ad hk
  refine Core.put h k v x M.ow (fun b hb hf => ⟨heap_set_ne _ _ _ fun e => h.fz_not c4 (e ▸ hf), hf.2⟩) (fun b t p hb ht hp => ⟨heap_set_ne _ _ _ (fun e => by rw [e, c4] at hp; cases hp), hp⟩) (fun k' ad' hk' => ?_) (fun b q hb => ⟨by rw [size_setCell]; exact (h.low b q hb).1, (h.low b q hb).2⟩) (fun hv2 => GS.put h hv hv2 hno (fun b _ hf => ⟨heap_set_ne _ _ _ fun e => h.fz_not c4 (e ▸ hf), hf.2⟩) (fun _ _ _ => rfl))
  by_cases hkk : k' = k
  · subst hkk
    rw [hk] at hk'
    injection hk' with hk'
    subst hk'
    rw [if_pos rfl]
    exact ⟨(cell_set_same c1 c3).1, (cell_set_same c1 c3).2.trans c2, rfl⟩
  · rw [if_neg hkk]
    obtain ⟨d1, d2, d3⟩ := h.cell k' ad' hk'
    have hne : ad'.block ≠ ad.block ∨ ad'.off ≠ ad.off := by
      by_cases hb : ad'.block = ad.block
      · right; exact fun ho => hkk (h.locinj hk' hk hb ho)
      · exact .inl hb
    exact ⟨(cell_set_other w ad ad' x hne).1.trans d1, (cell_set_other w ad ad' x hne).2.trans d2, rfl⟩
def renKey (s d : Nat) : Key → Key
  | .r q p => if q = s then .r d p else .r q p
  | k => k
def renOw (s d : Nat) (ow : Nat → Option Key) (b : Nat) : Option Key := (ow b).map (renKey s d)
theorem renOw_none {s d : Nat} {ow : Nat → Option Key} {b : Nat} : renOw s d ow b = none ↔ ow b = none := by simp [renOw]
theorem renOw_some {s d : Nat} {ow : Nat → Option Key} {b : Nat} {q : Key} (h : renOw s d ow b = some q) : ∃ q', ow b = some q' := by
  unfold renOw at h
  cases ho : ow b with
  | none => rw [ho] at h; cases h
  | some q' => exact ⟨q', rfl⟩
theorem renOw_c {s d : Nat} {ow : Nat → Option Key} {b k0 n0 : Nat} (h : ow b = some (.c k0 n0)) : renOw s d ow b = some (.c k0 n0) := by simp [renOw, h, renKey]
theorem renOw_s {s d : Nat} {ow : Nat → Option Key} {b : Nat} {p : List Nat} (h : ow b = some (.r s p)) : renOw s d ow b = some (.r d p) := by simp [renOw, h, renKey]
theorem renOw_ne {s d t : Nat} {ow : Nat → Option Key} {b : Nat} {p : List Nat} (h : ow b = some (.r t p)) (ht : t ≠ s) : renOw s d ow b = some (.r t p) := by simp [renOw, h, renKey, ht]
theorem GP.redir {s d : Nat} {y : Pv} {x : Value} (hd : rf σ d = false) (hrf : ∀ q, q ≠ s → rf σ q = true → rf σ' q = true) (hd' : rf σ' d = true) (htm : M'.tm = M.tm) (hsd : M.tm d = M.tm s) (hloc : M'.loc = M.loc) (how : ∀ b k n, M.ow b = some (.c k n) → M'.ow b = some (.c k n)) (hcl : ∀ k ad, M.loc k = some ad → ∃ k0 n, M.ow ad.block = some (.c k0 n)) (hz : ∀ b, M.fz b → M'.fz b) (h : GP M w σ y x) : GP M' w σ' (redirP s d y) x := by
  have hz' : ∀ b, b < w.heap.size → M.fz b → w.heap[b]? = w.heap[b]? ∧ M'.fz b := fun b _ hf => ⟨rfl, hz b hf⟩
  cases y with
  | al q =>
    obtain ⟨h1, h2⟩ := h
    by_cases hq : q = s
    · subst hq
      simp only [redirP, nbeq.2]
      exact ⟨hd', by rw [htm, hsd]; exact h2⟩
    · simp only [redirP, nbeq_ne hq]
      exact ⟨hrf q hq h1, by rw [htm]; exact h2⟩
  | go q =>
    obtain ⟨h1, h2⟩ := h
    by_cases hq : q = s
    · subst hq
      simp only [redirP, nbeq.2]
      exact ⟨hd', by rw [htm, hsd]; exact h2⟩
    · simp only [redirP, nbeq_ne hq]
      exact ⟨hrf q hq h1, by rw [htm]; exact h2⟩
  | _ => exact GP.keep (σ := σ) (M := M) (w := w) (fun q hq => by simp [hasV, redirP] at hq) (fun k ad _ hk => ⟨by rw [hloc]; exact hk, by obtain ⟨k0, n, hq⟩ := hcl k ad hk; rw [hq, how _ _ _ hq]⟩) hz' h
theorem GPs.redir {s d : Nat} {fs : List Pv} {xs : List Value} (hd : rf σ d = false) (hrf : ∀ q, q ≠ s → rf σ q = true → rf σ' q = true) (hd' : rf σ' d = true) (htm : M'.tm = M.tm) (hsd : M.tm d = M.tm s) (hloc : M'.loc = M.loc) (how : ∀ b k n, M.ow b = some (.c k n) → M'.ow b = some (.c k n)) (hcl : ∀ k ad, M.loc k = some ad → ∃ k0 n, M.ow ad.block = some (.c k0 n)) (hz : ∀ b, M.fz b → M'.fz b) (h : GPs M w σ fs xs) : GPs M' w σ' (fs.map (redirP s d)) xs := by
  refine ⟨by simp [h.1], fun i y z hy hz' => ?_⟩
  simp only [List.getElem?_map, Option.map_eq_some_iff] at hy
  obtain ⟨y', hy, rfl⟩ := hy
  exact (h.2 i y' z hy hz').redir hd hrf hd' htm hsd hloc how hcl hz
theorem Core.swap (h : Core σ M w) {s d : Nat} {e : TypeId} {L : List Sc} (hs : σ.getD s .u = .own e L) (hd : σ.getD d .u = .u) (hdl : d < σ.length) (htm : M.tm d = M.tm s) :
    Core (((σ.map (redir1 s d)).set s (.p (.al d))).set d (.own e L)) { M with ow := renOw s d M.ow } w := by
  have hsd : s ≠ d := fun e' => by subst e'; rw [hs] at hd; cases hd
  have hsl : s < σ.length := lt_of_getD hs (by simp)
  have look : ∀ t, (((σ.map (redir1 s d)).set s (.p (.al d))).set d (.own e L)).getD t .u = if t = d then .own e L else if t = s then .p (.al d) else redir1 s d (σ.getD t .u) := fun t => by
    rw [getD_set, getD_set, getD_map _ _ rfl]
    simp [hdl, hsl]
  have hrd : rf σ d = false := by unfold rf; rw [hd]; rfl
  have hrf : ∀ q, q ≠ s → rf σ q = true → rf (((σ.map (redir1 s d)).set s (.p (.al d))).set d (.own e L)) q = true := fun q hq hr => by
    have hqd : q ≠ d := fun e' => by subst e'; rw [hrd] at hr; cases hr
    unfold rf at hr ⊢
    rw [look, if_neg hqd, if_neg hq]
    cases hv : σ.getD q .u <;> rw [hv] at hr <;> simp_all [refable, redir1]
  have hrd' : rf (((σ.map (redir1 s d)).set s (.p (.al d))).set d (.own e L)) d = true := by unfold rf; rw [look, if_pos rfl]; rfl
  have hcl : ∀ k ad, M.loc k = some ad → ∃ k0 n, M.ow ad.block = some (.c k0 n) := fun k ad hk => by obtain ⟨_, _, _, k0, n0, h1, _⟩ := h.cell k ad hk; exact ⟨k0, n0, h1⟩
  have hz : ∀ b, M.fz b → Mem.fz { M with ow := renOw s d M.ow } b := fun b hf => ⟨hf.1, renOw_none.2 hf.2⟩
  refine ⟨fun t => ?_, fun k ad hk => ?_, fun b q hb => ?_, h.sub⟩
  · rw [look]
    split
    · rename_i ht
      subst ht
      have := h.slot s
      rw [hs] at this
      show GS _ _ _ _ _ (M.tm t)
      rw [htm]
      exact RowO.keep this (fun b p _ hp => ⟨rfl, renOw_s hp⟩) (fun _ b _ hf => ⟨rfl, hz b hf⟩)
    · rename_i htd
      split
      · rename_i ht
        subst ht
        exact ⟨hrd', htm.symm⟩
      · rename_i hts
        have := h.slot t
        cases hv : σ.getD t .u with
        | own e' L' => rw [hv] at this; exact RowO.keep this (fun b p _ hp => ⟨rfl, renOw_ne hp hts⟩) (fun _ b _ hf => ⟨rfl, hz b hf⟩)
        | fr e' L' => rw [hv] at this; exact ⟨this.1.keep (fun _ _ => rfl) (fun _ b _ hf => ⟨rfl, hz b hf⟩), fun b hb => ⟨(this.2 b hb).1, renOw_none.2 (this.2 b hb).2⟩⟩
        | p y => rw [hv] at this; exact GP.redir (M := M) hrd hrf hrd' rfl htm rfl (fun _ _ _ => renOw_c) hcl hz this
        | ep q i =>
          rw [hv] at this
          obtain ⟨h1, g, n, cap, h2, h3, h4⟩ := this
          by_cases hq : q = s
          · subst hq
            simp only [redir1, nbeq.2]
            exact ⟨hrd', g, n, cap, htm.trans h2, h3, h4⟩
          · simp only [redir1, nbeq_ne hq]
            exact ⟨hrf q hq h1, g, n, cap, h2, h3, h4⟩
        | tu fs => rw [hv] at this; obtain ⟨xs, h1, h2⟩ := this; exact ⟨xs, h1, h2.redir (M := M) hrd hrf hrd' rfl htm rfl (fun _ _ _ => renOw_c) hcl hz⟩
        | fn f cap => rw [hv] at this; obtain ⟨xs, h1, h2⟩ := this; exact ⟨xs, h1, h2.redir (M := M) hrd hrf hrd' rfl htm rfl (fun _ _ _ => renOw_c) hcl hz⟩
        | u => trivial
        | mv => trivial
        | und => rw [hv] at this; exact this
  · obtain ⟨h1, h2, h3, k0, n0, h4, h5⟩ := h.cell k ad hk
    exact ⟨h1, h2, h3, k0, n0, renOw_c h4, h5⟩
  · obtain ⟨q', hq'⟩ := renOw_some hb
    exact h.low b q' hq'
theorem Core.consume (h : Core σ M w) {s : Nat} (d : Nat) {e : TypeId} {L : List Sc} (hs : σ.getD s .u = .own e L) : Core (σ.set s .mv) { M with ow := renOw s d M.ow } w := by
  have look : ∀ t, t ≠ s → (σ.set s .mv).getD t .u = σ.getD t .u := fun t ht => getD_set_other _ _ _ _ _ (Ne.symm ht)
  have hsl : s < σ.length := lt_of_getD hs (by simp)
  refine Core.gen h (fun t => t = s) (fun t ht => ⟨.inl (look t ht), .inr rfl⟩) (fun t q _ _ hr => ⟨?_, rfl⟩) (fun _ k ad _ _ hk => ⟨hk, by obtain ⟨_, _, _, k0, n0, h1, _⟩ := h.cell k ad hk; show renOw s d M.ow ad.block = _; rw [renOw_c h1, h1]⟩) (fun b _ hf => ⟨rfl, hf.1, renOw_none.2 hf.2⟩) (fun b t p _ ht hp => ⟨rfl, renOw_ne hp ht⟩) (fun _ hb => hb) (fun t ht => ?_) (fun k ad hk => ?_) (fun b q hb => ?_) h.sub
  · unfold rf at hr ⊢
    by_cases hq : q = s
    · subst hq; rw [getD_set_same _ _ _ _ hsl]; rfl
    · rw [look q hq]; exact hr
  · have ht : t = s := ht
    subst ht
    rw [getD_set_same _ _ _ _ hsl]; trivial
  · obtain ⟨h1, h2, h3, k0, n0, h4, h5⟩ := h.cell k ad hk
    exact ⟨h1, h2, h3, k0, n0, renOw_c h4, h5⟩
  · obtain ⟨q', hq'⟩ := renOw_some hb
    exact h.low b q' hq'
theorem isN_dp {e : TypeId} (h : isN e = false) : dp e = false := by
  cases hd : dp e with
  | false => rfl
  | true => rw [dp_isN hd] at h; cases h
theorem Core.store (h : Core σ M w) {s i g cap : Nat} {e : TypeId} {L : List Sc} (y : Sc) (he : isN e = false) (hy : isS y = true) (hs : σ.getD s .u = .own e L) (hv : M.tm s = .slice (some ⟨g, 0, none⟩) L.length cap) :
    Core (σ.set s (.own e (L.set i y))) M (w.setCell ⟨g, i, none⟩ y.val) := by
  have hsl : s < σ.length := lt_of_getD hs (by simp)
  have h0 := h.slot s
  rw [hs, hv] at h0
  obtain ⟨h1, h2⟩ := (RowO.flat (isN_dp he)).1 h0
  have hg : M.ow g = some (.r s []) := h2 g rfl
  obtain ⟨h1, hsc⟩ := h1.sc he
  obtain ⟨hr, hgr⟩ := h1.stored i y.val
  have look : ∀ t, t ≠ s → (σ.set s (.own e (L.set i y))).getD t .u = σ.getD t .u := fun t ht => getD_set_other _ _ _ _ _ (Ne.symm ht)
  have hb : ∀ b, b ≠ g → (w.setCell ⟨g, i, none⟩ y.val).heap[b]? = w.heap[b]? := fun b hne => heap_set_ne _ _ _ hne
  refine Core.gen h (fun t => t = s) (fun t ht => ⟨.inl (look t ht), .inr rfl⟩) (fun t q _ _ hr => ⟨?_, rfl⟩) (fun _ _ _ _ _ hk => ⟨hk, rfl⟩) (fun b _ hf => ⟨hb b fun e' => h.fz_not hg (e' ▸ hf), hf⟩) (fun b t p _ ht hp => ⟨hb b fun e' => ?_, hp⟩) (fun _ hb => hb) (fun t ht => ?_) (fun k ad hk => ?_) (fun b q hq => ⟨by rw [size_setCell]; exact (h.low b q hq).1, (h.low b q hq).2⟩) h.sub
  · unfold rf at hr ⊢
    by_cases hq : q = s
    · subst hq; rw [getD_set_same _ _ _ _ hsl]; rfl
    · rw [look q hq]; exact hr
  · rw [e', hg] at hp
    injection hp with hp
    injection hp with hp _
    exact ht hp.symm
  · have ht : t = s := ht
    subst ht
    rw [getD_set_same _ _ _ _ hsl, hv]
    refine (RowO.flat (isN_dp he)).2 ⟨Row.ofSc he ?_ fun x hx => ?_, fun b hb => h2 b (by simpa [Value.ownBlock] using hb)⟩
    · rw [List.length_set, List.map_set]
      exact hr
    · rcases List.mem_or_eq_of_mem_set hx with hx | rfl
      · exact hsc x hx
      · exact hy
  · obtain ⟨c1, c2, c3, k0, n0, c4, c5⟩ := h.cell k ad hk
    have hne : ad.block ≠ g := fun e' => by rw [e', hg] at c4; cases c4
    exact ⟨cell_same c1 (hb _ hne), (World.frozen?_of_block (hb _ hne)).trans c2, c3, k0, n0, c4, c5⟩
theorem Core.storeN (h : Core σ M w) {s i g cap : Nat} {e : TypeId} {L : List Sc} (y : Sc) {v : Value} (hdp : dp e = false) (he : isN e = true) (hv : HF w M.fz y v) (hy : wfS (dep e) y = true) (hs : σ.getD s .u = .own e L) (hm : M.tm s = .slice (some ⟨g, 0, none⟩) L.length cap) :
    Core (σ.set s (.own e (L.set i y))) M (w.setCell ⟨g, i, none⟩ v) := by
  have hsl : s < σ.length := lt_of_getD hs (by simp)
  have h0 := h.slot s
  rw [hs, hm] at h0
  obtain ⟨h1, h2⟩ := (RowO.flat hdp).1 h0
  have hg : M.ow g = some (.r s []) := h2 g rfl
  obtain ⟨⟨vs, h1, hHL⟩, hwf⟩ := h1
  obtain ⟨hr, hgr⟩ := h1.stored i v
  have look : ∀ t, t ≠ s → (σ.set s (.own e (L.set i y))).getD t .u = σ.getD t .u := fun t ht => getD_set_other _ _ _ _ _ (Ne.symm ht)
  have hb : ∀ b, b ≠ g → (w.setCell ⟨g, i, none⟩ v).heap[b]? = w.heap[b]? := fun b hne => heap_set_ne _ _ _ hne
  have hz : ∀ b, b < w.heap.size → M.fz b → (w.setCell ⟨g, i, none⟩ v).heap[b]? = w.heap[b]? ∧ M.fz b := fun b _ hf => ⟨hb b fun e' => h.fz_not hg (e' ▸ hf), hf⟩
  refine Core.gen h (fun t => t = s) (fun t ht => ⟨.inl (look t ht), .inr rfl⟩) (fun t q _ _ hr => ⟨?_, rfl⟩) (fun _ _ _ _ _ hk => ⟨hk, rfl⟩) (fun b _ hf => ⟨hb b fun e' => h.fz_not hg (e' ▸ hf), hf⟩) (fun b t p _ ht hp => ⟨hb b fun e' => ?_, hp⟩) (fun _ hb => hb) (fun t ht => ?_) (fun k ad hk => ?_) (fun b q hq => ⟨by rw [size_setCell]; exact (h.low b q hq).1, (h.low b q hq).2⟩) h.sub
  · unfold rf at hr ⊢
    by_cases hq : q = s
    · subst hq; rw [getD_set_same _ _ _ _ hsl]; rfl
    · rw [look q hq]; exact hr
  · rw [e', hg] at hp
    injection hp with hp
    injection hp with hp _
    exact ht hp.symm
  · have ht : t = s := ht
    subst ht
    rw [getD_set_same _ _ _ _ hsl, hm]
    refine (RowO.flat hdp).2 ⟨⟨⟨vs.set i v, ?_, by simp [hHL.1], fun j x u hj hu => ?_⟩, ?_⟩, fun b hb => h2 b (by simpa [Value.ownBlock] using hb)⟩
    · rw [List.length_set]
      exact hr
    · by_cases hij : i = j
      · subst hij
        have hil : i < L.length := by have := (List.getElem?_eq_some_iff.1 hj).1; simpa using this
        rw [List.getElem?_set_self hil] at hj
        rw [List.getElem?_set_self (by rw [hHL.1]; exact hil)] at hu
        injection hj with hj
        injection hu with hu
        subst hj hu
        exact hv.keep hz
      · rw [List.getElem?_set_ne hij] at hj hu
        exact (hHL.2 j x u hj hu).keep hz
    · unfold wfL at hwf ⊢
      rw [List.all_eq_true] at hwf ⊢
      intro q hq
      rcases List.mem_or_eq_of_mem_set hq with hq | rfl
      · exact hwf q hq
      · exact hy
  · obtain ⟨c1, c2, c3, k0, n0, c4, c5⟩ := h.cell k ad hk
    have hne : ad.block ≠ g := fun e' => by rw [e', hg] at c4; cases c4
    exact ⟨cell_same c1 (hb _ hne), (World.frozen?_of_block (hb _ hne)).trans c2, c3, k0, n0, c4, c5⟩
def shOw (s : Nat) (ow : Nat → Option Key) (b : Nat) : Option Key := match ow b with
  | some (.r q p) => if q = s then none else some (.r q p)
  | x => x
theorem shOw_none {s b : Nat} {ow : Nat → Option Key} (h : ow b = none) : shOw s ow b = none := by simp [shOw, h]
theorem shOw_s {s b : Nat} {ow : Nat → Option Key} {p : List Nat} (h : ow b = some (.r s p)) : shOw s ow b = none := by simp [shOw, h]
theorem shOw_ne {s b t : Nat} {ow : Nat → Option Key} {p : List Nat} (h : ow b = some (.r t p)) (ht : t ≠ s) : shOw s ow b = some (.r t p) := by simp [shOw, h, ht]
theorem shOw_c {s b k0 n0 : Nat} {ow : Nat → Option Key} (h : ow b = some (.c k0 n0)) : shOw s ow b = some (.c k0 n0) := by simp [shOw, h]
theorem shOw_some {s b : Nat} {ow : Nat → Option Key} {q : Key} (h : shOw s ow b = some q) : ow b = some q := by
  unfold shOw at h
  split at h
  · split at h
    · cases h
    · rename_i h1 _; rw [h1]; exact h
  · exact h
theorem GP.share {s : Nat} {L : List Sc} {y : Pv} {x : Value} {A : Option Addr} {c : Nat} (hrf : ∀ q, q ≠ s → rf σ q = true → rf σ' q = true) (htm : M'.tm = M.tm) (hloc : M'.loc = M.loc) (how : ∀ b k n, M.ow b = some (.c k n) → M'.ow b = some (.c k n)) (hcl : ∀ k ad, M.loc k = some ad → ∃ k0 n, M.ow ad.block = some (.c k0 n)) (hz : ∀ b, M.fz b → M'.fz b)
    (hA : M.tm s = .slice A L.length c) (hc : L.length ≤ c) (hrd : Rd w M'.fz A L) (h : GP M w σ y x) : GP M' w σ' (shareP s L y) x := by
  have hz' : ∀ b, b < w.heap.size → M.fz b → w.heap[b]? = w.heap[b]? ∧ M'.fz b := fun b _ hf => ⟨rfl, hz b hf⟩
  cases y with
  | al q =>
    obtain ⟨h1, h2⟩ := h
    by_cases hq : q = s
    · subst hq
      simp only [shareP, nbeq.2]
      exact ⟨A, c, by rw [h2, hA], hc, hrd⟩
    · simp only [shareP, nbeq_ne hq]
      exact ⟨hrf q hq h1, by rw [htm]; exact h2⟩
  | go q =>
    obtain ⟨h1, h2⟩ := h
    by_cases hq : q = s
    · subst hq
      simp only [shareP, nbeq.2]
      exact ⟨A, c, by rw [h2, hA], hc, hrd⟩
    · simp only [shareP, nbeq_ne hq]
      exact ⟨hrf q hq h1, by rw [htm]; exact h2⟩
  | _ => exact GP.keep (σ := σ) (M := M) (w := w) (fun q hq => by simp [hasV, shareP] at hq) (fun k ad _ hk => ⟨by rw [hloc]; exact hk, by obtain ⟨k0, n, hq⟩ := hcl k ad hk; rw [hq, how _ _ _ hq]⟩) hz' h
theorem GPs.share {s : Nat} {L : List Sc} {fs : List Pv} {xs : List Value} {A : Option Addr} {c : Nat} (hrf : ∀ q, q ≠ s → rf σ q = true → rf σ' q = true) (htm : M'.tm = M.tm) (hloc : M'.loc = M.loc) (how : ∀ b k n, M.ow b = some (.c k n) → M'.ow b = some (.c k n)) (hcl : ∀ k ad, M.loc k = some ad → ∃ k0 n, M.ow ad.block = some (.c k0 n)) (hz : ∀ b, M.fz b → M'.fz b)
    (hA : M.tm s = .slice A L.length c) (hc : L.length ≤ c) (hrd : Rd w M'.fz A L) (h : GPs M w σ fs xs) : GPs M' w σ' (fs.map (shareP s L)) xs := by
  refine ⟨by simp [h.1], fun i y z hy hz' => ?_⟩
  simp only [List.getElem?_map, Option.map_eq_some_iff] at hy
  obtain ⟨y', hy, rfl⟩ := hy
  exact (h.2 i y' z hy hz').share hrf htm hloc how hcl hz hA hc hrd
theorem Core.share (h : Core σ M w) {s : Nat} {e : TypeId} {L : List Sc} (he : isN e = false) (hs : σ.getD s .u = .own e L) : Core (Ev.share σ s e L) { M with ow := shOw s M.ow } w := by
  have hsl : s < σ.length := lt_of_getD hs (by simp)
  have h0 := h.slot s
  rw [hs] at h0
  obtain ⟨h1, h2⟩ := (RowO.flat (isN_dp he)).1 h0
  obtain ⟨A, c, hA⟩ := h1.slice
  have look : ∀ t, (Ev.share σ s e L).getD t .u = if t = s then .fr e L else share1 s e L (σ.getD t .u) := fun t => by
    unfold Ev.share
    rw [getD_set, getD_map _ _ rfl]
    simp [hsl]
  have hown : ∀ b, (M.tm s).ownBlock = some b → M.fn b ∧ shOw s M.ow b = none := fun b hb => ⟨(h.low b _ (h2 b hb)).2, shOw_s (h2 b hb)⟩
  have h1' := h1
  rw [hA] at h1'
  obtain ⟨_, hc, hrd⟩ := Rd_of_own (Z := Mem.fz { M with ow := shOw s M.ow }) he h1' fun b hb => by
    have := hown b (by rw [hA]; exact hb)
    exact ⟨h.sub b this.1, this.2⟩
  have hrf : ∀ q, q ≠ s → rf σ q = true → rf (Ev.share σ s e L) q = true := fun q hq hr => by
    unfold rf at hr ⊢
    rw [look, if_neg hq]
    cases hv : σ.getD q .u <;> rw [hv] at hr <;> simp_all [refable, share1]
  have hcl : ∀ k ad, M.loc k = some ad → ∃ k0 n, M.ow ad.block = some (.c k0 n) := fun k ad hk => by obtain ⟨_, _, _, k0, n0, h1, _⟩ := h.cell k ad hk; exact ⟨k0, n0, h1⟩
  have hz : ∀ b, M.fz b → Mem.fz { M with ow := shOw s M.ow } b := fun b hf => ⟨hf.1, shOw_none hf.2⟩
  refine ⟨fun t => ?_, fun k ad hk => ?_, fun b q hb => h.low b q (shOw_some hb), h.sub⟩
  · rw [look]
    split
    · rename_i ht
      subst ht
      exact ⟨h1.keep (fun _ _ => rfl) (fun _ b _ hf => ⟨rfl, hz b hf⟩), hown⟩
    · rename_i hts
      have := h.slot t
      cases hv : σ.getD t .u with
      | own e' L' => rw [hv] at this; exact RowO.keep this (fun b p _ hp => ⟨rfl, shOw_ne hp hts⟩) (fun _ b _ hf => ⟨rfl, hz b hf⟩)
      | fr e' L' => rw [hv] at this; exact ⟨this.1.keep (fun _ _ => rfl) (fun _ b _ hf => ⟨rfl, hz b hf⟩), fun b hb => ⟨(this.2 b hb).1, shOw_none (this.2 b hb).2⟩⟩
      | p y =>
        rw [hv] at this
        have gen : GS { M with ow := shOw s M.ow } w (Ev.share σ s e L) t (.p (shareP s L y)) (M.tm t) := GP.share (M := M) hrf rfl rfl (fun _ _ _ => shOw_c) hcl hz hA hc hrd this
        cases y with
        | al q =>
          by_cases hq : q = s
          · subst hq
            simp only [share1, nbeq.2]
            obtain ⟨_, h4⟩ := this
            show GS _ _ _ _ _ (M.tm t)
            rw [h4]
            exact ⟨h1.keep (fun _ _ => rfl) (fun _ b _ hf => ⟨rfl, hz b hf⟩), hown⟩
          · simp only [share1, nbeq_ne hq]
            simpa only [shareP, nbeq_ne hq] using gen
        | _ => exact gen
      | ep q i =>
        rw [hv] at this
        by_cases hq : q = s
        · subst hq; simp only [share1, nbeq.2]; trivial
        · simp only [share1, nbeq_ne hq]
          obtain ⟨h3, h4⟩ := this
          exact ⟨hrf q hq h3, h4⟩
      | tu fs => rw [hv] at this; obtain ⟨xs, h3, h4⟩ := this; exact ⟨xs, h3, h4.share (M := M) hrf rfl rfl (fun _ _ _ => shOw_c) hcl hz hA hc hrd⟩
      | fn f cap => rw [hv] at this; obtain ⟨xs, h3, h4⟩ := this; exact ⟨xs, h3, h4.share (M := M) hrf rfl rfl (fun _ _ _ => shOw_c) hcl hz hA hc hrd⟩
      | u => trivial
      | mv => trivial
      | und => rw [hv] at this; exact this
  · obtain ⟨c1, c2, c3, k0, n0, c4, c5⟩ := h.cell k ad hk
    exact ⟨c1, c2, c3, k0, n0, shOw_c c4, c5⟩
theorem GS.keepN {t t' : Nat} {v : AV} {x : Value} (hno : ∀ e L, v ≠ .own e L) (hv : ∀ s, hasVA s v = true → rf σ s = true → rf σ' s = true ∧ M'.tm s = M.tm s) (hp : ∀ k ad, hasPA k v = true → M.loc k = some ad → M'.loc k = some ad ∧ M'.ow ad.block = M.ow ad.block)
    (hz : ∀ b, b < w.heap.size → M.fz b → w'.heap[b]? = w.heap[b]? ∧ M'.fz b) (hn : ∀ b, M.fn b → M'.fn b) (hsub : ∀ b, M.fn b → M.fo b) (h : GS M w σ t v x) : GS M' w' σ' t' v x := by
  cases v with
  | u => trivial
  | mv => trivial
  | und => exact h
  | own e L => exact absurd rfl (hno e L)
  | fr e L =>
    have key : ∀ b, x.ownBlock = some b → w'.heap[b]? = w.heap[b]? ∧ M'.fz b := fun b hb => hz b (h.1.lt hb).2 ⟨hsub b (h.2 b hb).1, (h.2 b hb).2⟩
    exact ⟨h.1.keep (fun b hb => (key b hb).1) (fun _ => hz), fun b hb => ⟨hn b (h.2 b hb).1, (key b hb).2.2⟩⟩
  | p y => exact GP.keep hv hp hz h
  | ep s i => obtain ⟨h1, g, n, cap, h2, h3, h4⟩ := h; have := hv s (by simp [hasVA]) h1; exact ⟨this.1, g, n, cap, this.2.trans h2, h3, h4⟩
  | tu fs => obtain ⟨xs, h1, h2⟩ := h; exact ⟨xs, h1, h2.keep hv hp hz⟩
  | fn f cap => obtain ⟨xs, h1, h2⟩ := h; exact ⟨xs, h1, h2.keep hv hp hz⟩
theorem Core.shareN (h : Core σ M w) {s : Nat} {e : TypeId} {L : List Sc} (hdp : dp e = false) (hs : σ.getD s .u = .own e L) : Core (Ev.shareN σ s e L) { M with ow := shOw s M.ow } w := by
  have hsl : s < σ.length := lt_of_getD hs (by simp)
  have h0 := h.slot s
  rw [hs] at h0
  obtain ⟨h1, h2⟩ := (RowO.flat hdp).1 h0
  have hu : shareN1 s e L .u = .u := rfl
  have look : ∀ t, (Ev.shareN σ s e L).getD t .u = if t = s then .fr e L else shareN1 s e L (σ.getD t .u) := fun t => by
    unfold Ev.shareN
    rw [getD_set, getD_map _ _ hu]
    simp [hsl]
  have hown : ∀ b, (M.tm s).ownBlock = some b → M.fn b ∧ shOw s M.ow b = none := fun b hb => ⟨(h.low b _ (h2 b hb)).2, shOw_s (h2 b hb)⟩
  have hz : ∀ b, M.fz b → Mem.fz { M with ow := shOw s M.ow } b := fun b hf => ⟨hf.1, shOw_none hf.2⟩
  have hz' : ∀ b, b < w.heap.size → M.fz b → w.heap[b]? = w.heap[b]? ∧ Mem.fz { M with ow := shOw s M.ow } b := fun b _ hf => ⟨rfl, hz b hf⟩
  have frS : GS { M with ow := shOw s M.ow } w (Ev.shareN σ s e L) s (.fr e L) (M.tm s) := ⟨h1.keep (fun _ _ => rfl) (fun _ => hz'), hown⟩
  have hrf : ∀ q, q ≠ s → rf σ q = true → rf (Ev.shareN σ s e L) q = true := fun q hq hr => by
    unfold rf at hr ⊢
    rw [look, if_neg hq]
    cases hv : σ.getD q .u <;> rw [hv] at hr <;> simp_all [refable, shareN1, dropV, hasVA]
  have hcl : ∀ k ad, M.loc k = some ad → ∃ k0 n, M.ow ad.block = some (.c k0 n) := fun k ad hk => by obtain ⟨_, _, _, k0, n0, h1, _⟩ := h.cell k ad hk; exact ⟨k0, n0, h1⟩
  have keepV : ∀ t v, t ≠ s → (∀ e' L', v ≠ .own e' L') → hasVA s v = false → GS M w σ t v (M.tm t) → GS { M with ow := shOw s M.ow } w (Ev.shareN σ s e L) t v (M.tm t) := fun t v ht hno hvs hg =>
    GS.keepN (M := M) (σ := σ) hno (fun q hq hr => ⟨hrf q (fun e' => by subst e'; rw [hq] at hvs; cases hvs) hr, rfl⟩) (fun k ad _ hk => ⟨hk, by obtain ⟨k0, n, hq⟩ := hcl k ad hk; show shOw s M.ow ad.block = _; rw [hq, shOw_c hq]⟩) hz' (fun _ hb => hb) h.sub hg
  refine ⟨fun t => ?_, fun k ad hk => ?_, fun b q hb => h.low b q (shOw_some hb), h.sub⟩
  · rw [look]
    split
    · rename_i ht
      subst ht
      exact frS
    · rename_i hts
      have := h.slot t
      cases hv : σ.getD t .u with
      | own e' L' => rw [hv] at this; exact RowO.keep this (fun b p _ hp => ⟨rfl, shOw_ne hp hts⟩) (fun _ => hz')
      | p y =>
        rw [hv] at this
        cases y with
        | al q =>
          by_cases hq : q = s
          · subst hq
            simp only [shareN1, nbeq.2]
            obtain ⟨_, h4⟩ := this
            show GS _ _ _ _ _ (M.tm t)
            rw [h4]
            exact frS
          · simp only [shareN1, nbeq_ne hq]
            exact keepV t _ hts (by simp) (by simp [hasVA, hasV, nbeq_ne hq]) this
        | go q =>
          show GS _ _ _ _ (dropV s (.p (.go q))) _
          rcases dropV_cases s (.p (.go q)) with ⟨d1, d2⟩ | d1
          · rw [d1]; exact keepV t _ hts (by simp) d2 this
          · rw [d1]; trivial
        | sc y => exact keepV t (.p (.sc y)) hts (by simp) rfl this
        | sl K => exact keepV t (.p (.sl K)) hts (by simp) rfl this
        | gr K => exact keepV t (.p (.gr K)) hts (by simp) rfl this
        | ev y => exact keepV t (.p (.ev y)) hts (by simp) rfl this
        | el K => exact keepV t (.p (.el K)) hts (by simp) rfl this
        | pt k n => exact keepV t (.p (.pt k n)) hts (by simp) rfl this
        | fp k => exact keepV t (.p (.fp k)) hts (by simp) rfl this
        | st fs => exact keepV t (.p (.st fs)) hts (by simp) rfl this
        | ll LL => exact keepV t (.p (.ll LL)) hts (by simp) rfl this
        | nl d' K => exact keepV t (.p (.nl d' K)) hts (by simp) rfl this
        | en d' K => exact keepV t (.p (.en d' K)) hts (by simp) rfl this
      | u => trivial
      | mv => trivial
      | und => rw [hv] at this; exact this
      | fr e' L' => rw [hv] at this; exact keepV t (.fr e' L') hts (by simp) rfl this
      | ep q i =>
        rw [hv] at this
        show GS _ _ _ _ (dropV s (.ep q i)) _
        rcases dropV_cases s (.ep q i) with ⟨d1, d2⟩ | d1
        · rw [d1]; exact keepV t _ hts (by simp) d2 this
        · rw [d1]; trivial
      | tu fs =>
        rw [hv] at this
        show GS _ _ _ _ (dropV s (.tu fs)) _
        rcases dropV_cases s (.tu fs) with ⟨d1, d2⟩ | d1
        · rw [d1]; exact keepV t _ hts (by simp) d2 this
        · rw [d1]; trivial
      | fn f cap =>
        rw [hv] at this
        show GS _ _ _ _ (dropV s (.fn f cap)) _
        rcases dropV_cases s (.fn f cap) with ⟨d1, d2⟩ | d1
        · rw [d1]; exact keepV t _ hts (by simp) d2 this
        · rw [d1]; trivial
  · obtain ⟨c1, c2, c3, k0, n0, c4, c5⟩ := h.cell k ad hk
    exact ⟨c1, c2, c3, k0, n0, shOw_c c4, c5⟩
theorem Core.append (h : Core σ M w) {s d : Nat} {e : TypeId} {L L' : List Sc} {v' : Value} (hdp : dp e = false) (hs : σ.getD s .u = .own e L) (hd : M.loc d = none) (hown : Row w' (fun b => M.fz b ∧ b < w.heap.size) 0 e v' L') (hg : w.grownBy w' (M.tm s).ownBlock)
    (hb : v'.ownBlock = (M.tm s).ownBlock ∨ v'.ownBlock = some w.heap.size) (hfn : ∀ b, w.heap.size ≤ b → M.fn b) :
    ∃ ow', Core (setA (σ.set s .mv) d (.own e L')) (M.upd d v' ow') w' ∧ (∀ b q, ow' b = some q → (∃ q', M.ow b = some q') ∨ w.heap.size ≤ b) ∧ ∀ k ad, M.loc k = some ad → ow' ad.block = M.ow ad.block := by
  have h1 := h.consume d hs
  have hsl := h.slot s
  rw [hs] at hsl
  replace hsl := (RowO.flat hdp).1 hsl
  have hrow : ∀ b, (M.tm s).ownBlock = some b → renOw s d M.ow b = some (.r d []) := fun b hb' => renOw_s (hsl.2 b hb')
  have hblk : ∀ b, b < w.heap.size → (∀ p, renOw s d M.ow b ≠ some (.r d p)) → w'.heap[b]? = w.heap[b]? ∧ v'.ownBlock ≠ some b := fun b hlt hne => by
    have hnr : (M.tm s).ownBlock ≠ some b := fun e' => hne [] (hrow b e')
    refine ⟨hg.block b hlt fun e' => hnr e'.symm, fun e' => ?_⟩
    rcases hb with hb | hb
    · exact hnr (hb ▸ e')
    · rw [hb] at e'; injection e' with e'; omega
  refine ⟨fun b => if v'.ownBlock = some b then some (.r d []) else renOw s d M.ow b, Core.put h1 d _ v' _ (fun b hlt hf => ?_) (fun b t p hlt ht hp => ?_) (fun k ad hk => ?_) (fun b q hq => ?_) (fun _ => (RowO.flat hdp).2 ⟨hown.keep (fun _ _ => rfl) (fun _ b _ hz => ⟨rfl, hz.1.1, ?_⟩), fun b hb' => ?_⟩), fun b q hq => ?_, fun k ad hk => ?_⟩
  · have := hblk b hlt fun p e' => by have := hf.2; simp only at this; rw [this] at e'; cases e'
    exact ⟨this.1, by rw [if_neg this.2]; exact hf.2⟩
  · have hp : renOw s d M.ow b = some (.r t p) := hp
    have := hblk b hlt fun p' e' => by rw [hp] at e'; injection e' with e'; injection e' with e' _; exact ht e'
    exact ⟨this.1, by rw [if_neg this.2]; exact hp⟩
  · have hk : M.loc k = some ad := hk
    obtain ⟨c1, c2, c3, k0, n0, c4, c5⟩ := h1.cell k ad hk
    have c4 : renOw s d M.ow ad.block = some (.c k0 n0) := c4
    have := hblk ad.block (cell_lt c1) fun p e' => by rw [c4] at e'; cases e'
    have hkd : k ≠ d := fun e' => by subst e'; rw [hd] at hk; cases hk
    rw [if_neg hkd]
    exact ⟨cell_same c1 this.1, (World.frozen?_of_block this.1).trans c2, by rw [if_neg this.2]⟩
  · have hq : (if v'.ownBlock = some b then some (Key.r d []) else renOw s d M.ow b) = some q := hq
    split at hq
    · rename_i hx
      refine ⟨(hown.lt hx).2, ?_⟩
      rcases hb with hb | hb
      · exact (h.low b _ (hsl.2 b (hb ▸ hx))).2
      · rw [hb] at hx; injection hx with hx; exact hfn b (by omega)
    · obtain ⟨q', hq'⟩ := renOw_some hq
      exact ⟨Nat.lt_of_lt_of_le (h.low b q' hq').1 hg.size, (h.low b q' hq').2⟩
  · show (if v'.ownBlock = some b then some (Key.r d []) else renOw s d M.ow b) = none
    have h5 : renOw s d M.ow b = none := renOw_none.2 hz.1.2
    rw [if_neg (hblk b hz.2 fun p e' => by rw [h5] at e'; cases e').2]
    exact h5
  · show (if v'.ownBlock = some b then some (Key.r d []) else renOw s d M.ow b) = _
    rw [if_pos hb']
  · have hq : (if v'.ownBlock = some b then some (Key.r d []) else renOw s d M.ow b) = some q := hq
    split at hq
    · rename_i hx
      rcases hb with hb | hb
      · exact .inl ⟨_, hsl.2 b (hb ▸ hx)⟩
      · rw [hb] at hx; injection hx with hx; exact .inr (by omega)
    · exact .inl (renOw_some hq)
  · obtain ⟨c1, c2, c3, k0, n0, c4, c5⟩ := h.cell k ad hk
    have c6 : renOw s d M.ow ad.block = some (.c k0 n0) := renOw_c c4
    have := hblk ad.block (cell_lt c1) fun p e' => by rw [c6] at e'; cases e'
    show (if v'.ownBlock = some ad.block then some (Key.r d []) else renOw s d M.ow ad.block) = _
    rw [if_neg this.2, c6, c4]
theorem setAll_length : ∀ (l : List (Nat × AV)) (σ : List AV), (setAll l σ).length = σ.length
  | [], _ => rfl
  | (i, v) :: r, σ => by simp [setAll, setAll_length r]
theorem setAll_other {t : Nat} : ∀ (l : List (Nat × AV)) (σ : List AV), (∀ x ∈ l, x.1 ≠ t) → (setAll l σ).getD t .u = σ.getD t .u
  | [], _, _ => rfl
  | (i, v) :: r, σ, h => by
    rw [setAll, setAll_other r _ fun x hx => h x (List.mem_cons_of_mem _ hx), getD_set_other _ _ _ _ _ (h (i, v) List.mem_cons_self)]
theorem setAll_at {t : Nat} {v : AV} : ∀ (l : List (Nat × AV)) (σ : List AV), (l.map (·.1)).Nodup → (t, v) ∈ l → t < σ.length → (setAll l σ).getD t .u = v
  | (i, v1) :: r, σ, hn, hm, hl => by
    simp only [List.map_cons, List.nodup_cons] at hn
    rcases List.mem_cons.1 hm with h | h
    · injection h with h1 h2
      subst h1 h2
      rw [setAll, setAll_other r _ fun x hx e => hn.1 (List.mem_map.2 ⟨x, hx, e⟩), getD_set_same _ _ _ _ hl]
    · exact setAll_at r _ hn.2 h (by simpa using hl)
theorem hasR_spec {b n : Nat} {v : AV} (h : hasR b n v = false) {d : Nat} (h1 : b ≤ d) (h2 : d < b + n) : hasVA d v = false ∧ hasPA d v = false := by
  unfold hasR at h
  rw [List.any_eq_false] at h
  have := h d (List.mem_range'_1.2 ⟨h1, h2⟩)
  simpa using this
theorem dropR_cases (b n : Nat) (v : AV) : (dropR b n v = v ∧ hasR b n v = false) ∨ dropR b n v = .u := by
  unfold dropR
  cases hasR b n v <;> simp
theorem dropR_own (b n : Nat) (v : AV) (h : refable v = true) : dropR b n v = v := by
  rcases dropR_cases b n v with ⟨h1, _⟩ | h1
  · exact h1
  · have : hasR b n v = false := by
      unfold hasR
      rw [List.any_eq_false]
      intro d _
      cases v <;> simp_all [refable, hasVA, hasPA]
    simp [dropR, this]
theorem zip_range'_mem {α : Type} {b : Nat} {vs : List α} {x : Nat × α} (h : x ∈ (List.range' b vs.length).zip vs) : b ≤ x.1 ∧ x.1 < b + vs.length := by
  have := List.of_mem_zip h
  exact List.mem_range'_1.1 this.1
theorem layAt_length (b : Nat) (vs : List AV) : (layAt b vs σ).length = σ.length := by simp [layAt, setAll_length]
theorem layAt_in {b : Nat} {vs : List AV} {i : Nat} {v : AV} (hi : vs[i]? = some v) (hl : b + i < σ.length) : (layAt b vs σ).getD (b + i) .u = v := by
  have hlt := (List.getElem?_eq_some_iff.1 hi).1
  refine setAll_at _ _ ?_ ?_ (by simpa using hl)
  · rw [List.map_fst_zip (by simp)]
    exact List.nodup_range'
  · refine List.mem_iff_getElem?.2 ⟨i, ?_⟩
    rw [List.getElem?_zip_eq_some]
    exact ⟨by simp [hlt], hi⟩
theorem layAt_out {b : Nat} {vs : List AV} {t : Nat} (ht : ¬ (b ≤ t ∧ t < b + vs.length)) : (layAt b vs σ).getD t .u = dropR b vs.length (σ.getD t .u) := by
  unfold layAt
  rw [setAll_other _ _ fun x hx e => ht (by have := zip_range'_mem hx; rw [e] at this; exact this), getD_map _ _ (by unfold dropR; cases hasR b vs.length AV.u <;> rfl)]
theorem Core.layG (h : Core σ M w) {g b : Nat} {vs : List AV} {xs : List Value} (hg : Below w.heap.size w w') (hg1 : w.heap.size ≤ g) (hlt : g < w'.heap.size) (hxs : xs.length = vs.length) (hbl : b + vs.length ≤ σ.length)
    (hcell : ∀ (i : Nat) x, xs[i]? = some x → w'.cell? ⟨g, i, none⟩ = some x ∧ w'.frozen? ⟨g, i, none⟩ = false) (hfn : M.fn g)
    (hvs : ∀ (i : Nat) v x, vs[i]? = some v → xs[i]? = some x → GS { tm := fun t => if b ≤ t ∧ t < b + vs.length then xs.getD (t - b) undef else M.tm t, loc := fun t => if b ≤ t ∧ t < b + vs.length then some ⟨g, t - b, none⟩ else M.loc t, ow := fun x => if x = g then some (.c b vs.length) else M.ow x, fo := M.fo, fn := M.fn } w' (layAt b vs σ) (b + i) v x) :
    Core (layAt b vs σ) { tm := fun t => if b ≤ t ∧ t < b + vs.length then xs.getD (t - b) undef else M.tm t, loc := fun t => if b ≤ t ∧ t < b + vs.length then some ⟨g, t - b, none⟩ else M.loc t, ow := fun x => if x = g then some (.c b vs.length) else M.ow x, fo := M.fo, fn := M.fn } w' := by
  have hS : ∀ d, (b ≤ d ∧ d < b + vs.length) → ∀ v, hasR b vs.length v = false → hasVA d v = false ∧ hasPA d v = false := fun d hd v hv => hasR_spec hv hd.1 hd.2
  have hrf : ∀ s, ¬ (b ≤ s ∧ s < b + vs.length) → rf σ s = true → rf (layAt b vs σ) s = true := fun s hs hr => by
    unfold rf at hr ⊢
    rw [layAt_out hs, dropR_own _ _ _ hr]
    exact hr
  have hz : ∀ x, x < w.heap.size → M.fz x → w'.heap[x]? = w.heap[x]? ∧ M.fo x ∧ (if x = g then some (Key.c b vs.length) else M.ow x) = none := fun x hx hf => ⟨hg.block x hx, hf.1, by rw [if_neg (by omega)]; exact hf.2⟩
  refine Core.gen h (fun t => b ≤ t ∧ t < b + vs.length) (fun t ht => ⟨?_, .inr (if_neg ht)⟩) (fun t s ht hs hr => ?_) (fun t k ad ht hk hl => ?_) hz (fun x t p hx ht hp => ⟨hg.block x hx, by show (if x = g then some (Key.c b vs.length) else M.ow x) = _; rw [if_neg (by omega)]; exact hp⟩) (fun _ hb => hb) (fun t ht => ?_) (fun k ad hk => ?_) (fun x q hq => ?_) h.sub
  · rw [layAt_out ht]
    rcases dropR_cases b vs.length (σ.getD t .u) with ⟨h1, _⟩ | h1
    · exact .inl h1
    · exact .inr h1
  · rw [layAt_out ht] at hs
    have hns : ¬ (b ≤ s ∧ s < b + vs.length) := fun hin => by
      rcases dropR_cases b vs.length (σ.getD t .u) with ⟨h1, h2⟩ | h1
      · rw [h1, (hS s hin _ h2).1] at hs; cases hs
      · rw [h1] at hs; cases hs
    exact ⟨hrf s hns hr, if_neg hns⟩
  · rw [layAt_out ht] at hk
    have hns : ¬ (b ≤ k ∧ k < b + vs.length) := fun hin => by
      rcases dropR_cases b vs.length (σ.getD t .u) with ⟨h1, h2⟩ | h1
      · rw [h1, (hS k hin _ h2).2] at hk; cases hk
      · rw [h1] at hk; cases hk
    refine ⟨(if_neg hns).trans hl, ?_⟩
    show (if ad.block = g then some (Key.c b vs.length) else M.ow ad.block) = _
    rw [if_neg (fun e => by have := cell_lt (h.cell k ad hl).1; omega)]
  · obtain ⟨i, rfl⟩ : ∃ i, t = b + i := ⟨t - b, by omega⟩
    have hi : i < vs.length := by omega
    have hxi : i < xs.length := by omega
    rw [layAt_in (List.getElem?_eq_getElem hi) (by omega)]
    have e1 : xs.getD i undef = xs[i] := by simp [List.getD, hxi]
    have := hvs i _ _ (List.getElem?_eq_getElem hi) (List.getElem?_eq_getElem hxi)
    show GS _ _ _ _ _ (if b ≤ b + i ∧ b + i < b + vs.length then xs.getD (b + i - b) undef else M.tm (b + i))
    rw [if_pos ht, show b + i - b = i by omega, e1]
    exact this
  · have hk : (if b ≤ k ∧ k < b + vs.length then some ⟨g, k - b, none⟩ else M.loc k) = some ad := hk
    show _ = some (if b ≤ k ∧ k < b + vs.length then xs.getD (k - b) undef else M.tm k) ∧ _ ∧ _ ∧ ∃ k0 n, (if ad.block = g then some (Key.c b vs.length) else M.ow ad.block) = some (.c k0 n) ∧ _
    split at hk
    · rename_i hin
      injection hk with hk
      subst hk
      have hxi : k - b < xs.length := by omega
      obtain ⟨h1, h2⟩ := hcell (k - b) _ (List.getElem?_eq_getElem hxi)
      rw [if_pos hin]
      exact ⟨by rw [h1]; simp [List.getD, hxi], h2, rfl, b, vs.length, if_pos rfl, by show k = b + (k - b); omega, by show k - b < _; omega⟩
    · rename_i hin
      rw [if_neg hin]
      obtain ⟨h1, h2, h3, k0, n0, h4, h5⟩ := h.cell k ad hk
      have hb := hg.block _ (cell_lt h1)
      exact ⟨cell_same h1 hb, (World.frozen?_of_block hb).trans h2, h3, k0, n0, by rw [if_neg (by have := cell_lt h1; omega)]; exact h4, h5⟩
  · have hq : (if x = g then some (Key.c b vs.length) else M.ow x) = some q := hq
    split at hq
    · rename_i hx; subst hx; exact ⟨hlt, hfn⟩
    · exact ⟨Nat.lt_of_lt_of_le (h.low x q hq).1 hg.size, (h.low x q hq).2⟩
theorem Core.layV (h : Core σ M w) {g b : Nat} {vs : List AV} {xs : List Value} (hg : Below w.heap.size w w') (hg1 : w.heap.size ≤ g) {v : AV} {x : Value} {t' : Nat} (h1 : GS M w σ 0 v x) (h2 : ∀ e L, v ≠ .own e L) (h3 : hasR b vs.length v = false) :
    GS { tm := fun t => if b ≤ t ∧ t < b + vs.length then xs.getD (t - b) undef else M.tm t, loc := fun t => if b ≤ t ∧ t < b + vs.length then some ⟨g, t - b, none⟩ else M.loc t, ow := fun x => if x = g then some (.c b vs.length) else M.ow x, fo := M.fo, fn := M.fn } w' (layAt b vs σ) t' v x := by
  have hS : ∀ d, (b ≤ d ∧ d < b + vs.length) → ∀ v, hasR b vs.length v = false → hasVA d v = false ∧ hasPA d v = false := fun d hd v hv => hasR_spec hv hd.1 hd.2
  have hrf : ∀ s, ¬ (b ≤ s ∧ s < b + vs.length) → rf σ s = true → rf (layAt b vs σ) s = true := fun s hs hr => by
    unfold rf at hr ⊢
    rw [layAt_out hs, dropR_own _ _ _ hr]
    exact hr
  have hz : ∀ x, x < w.heap.size → M.fz x → w'.heap[x]? = w.heap[x]? ∧ M.fo x ∧ (if x = g then some (Key.c b vs.length) else M.ow x) = none := fun x hx hf => ⟨hg.block x hx, hf.1, by rw [if_neg (by omega)]; exact hf.2⟩
  refine GS.keepN (t := 0) h2 (fun s hs hr => ?_) (fun k ad hk hl => ?_) hz (fun _ hb => hb) h.sub h1
  · have hns : ¬ (b ≤ s ∧ s < b + vs.length) := fun hin => by rw [(hS s hin _ h3).1] at hs; cases hs
    exact ⟨hrf s hns hr, if_neg hns⟩
  · have hns : ¬ (b ≤ k ∧ k < b + vs.length) := fun hin => by rw [(hS k hin _ h3).2] at hk; cases hk
    refine ⟨(if_neg hns).trans hl, ?_⟩
    show (if ad.block = g then some (Key.c b vs.length) else M.ow ad.block) = _
    rw [if_neg (fun e => by have := cell_lt (h.cell k ad hl).1; omega)]
end
end Go.Proofs.YtlnhommmmajllaaGreat.Ev
