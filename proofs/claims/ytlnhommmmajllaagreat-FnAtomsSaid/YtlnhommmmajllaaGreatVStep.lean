/-
  VStep: operations that turn the slots.
-/
import Derived.Test.YtlnhommmmajllaaGreatVOps
set_option linter.unusedVariables false
namespace Go.Proofs.YtlnhommmmajllaaGreat.Ev
open Go Go.RowKit
section
variable {P : Program} {E : Env} {cl : Calling} {H : Hints} {F : Fi} {Y : Nat → Prop} {w0 w w' : World} {m : Nat} {Mp : Mem} {nv nc : Nat} {M : Mem} {σ : List AV} {a : Act} {R : Type}
theorem Core.moveT (h : Core σ M w) {s d : Nat} {e : TypeId} {L : List Sc} (hs : σ.getD s .u = .own e L) (hsd : s ≠ d) (hdl : d < σ.length) (hd : M.loc d = none) :
    Core (moveOwn σ s d e L) { M.upd d (M.tm s) M.ow with ow := renOw s d M.ow } w := by
  have h1 : Core (setA σ d .u) (M.upd d (M.tm s) M.ow) w := Core.put h d .u (M.tm s) M.ow (fun _ _ hf => ⟨rfl, hf.2⟩) (fun _ _ _ _ _ hp => ⟨rfl, hp⟩) (fun k ad hk => by
    obtain ⟨c1, c2, _⟩ := h.cell k ad hk
    have hkd : k ≠ d := fun e' => by subst e'; rw [hd] at hk; cases hk
    rw [if_neg hkd]
    exact ⟨c1, c2, rfl⟩) (fun b q hb => h.low b q hb) (fun _ => trivial)
  have e1 : (setA σ d .u).getD s .u = .own e L := by rw [h.setA_getD, if_neg (fun h => hsd h.1), hs]; rfl
  have e2 : (setA σ d .u).getD d .u = .u := by rw [h.setA_getD, if_pos ⟨rfl, hdl⟩]; rfl
  exact h1.swap e1 e2 (by rw [setA_length]; exact hdl) (by simp [Mem.upd, hsd])
theorem Core.moveC (h : Core σ M w) {s d : Nat} {e : TypeId} {L : List Sc} {ad : Addr} (hs : σ.getD s .u = .own e L) (hsd : s ≠ d) (hdl : d < σ.length) (hd : M.loc d = some ad) :
    Core (moveOwn σ s d e L) { M.upd d (M.tm s) M.ow with ow := renOw s d M.ow } (w.setCell ad (M.tm s)) := by
  have h1 : Core (setA σ d .u) (M.upd d (M.tm s) M.ow) (w.setCell ad (M.tm s)) := h.putCell hd (v := .u) (by simp) trivial
  have e1 : (setA σ d .u).getD s .u = .own e L := by rw [h.setA_getD, if_neg (fun h => hsd h.1), hs]; rfl
  have e2 : (setA σ d .u).getD d .u = .u := by rw [h.setA_getD, if_pos ⟨rfl, hdl⟩]; rfl
  exact h1.swap e1 e2 (by rw [setA_length]; exact hdl) (by simp [Mem.upd, hsd])
theorem ren_cells (h : Core σ M w) (s d : Nat) : ∀ k ad, M.loc k = some ad → renOw s d M.ow ad.block = M.ow ad.block := fun k ad hk => by
  obtain ⟨_, _, _, k0, n0, h1, _⟩ := h.cell k ad hk
  rw [renOw_c h1, h1]
theorem sh_cells (h : Core σ M w) (s : Nat) : ∀ k ad, M.loc k = some ad → shOw s M.ow ad.block = M.ow ad.block := fun k ad hk => by
  obtain ⟨_, _, _, k0, n0, h1, _⟩ := h.cell k ad hk
  rw [shOw_c h1, h1]
theorem Stays.moved (h : Core σ M w) {m s d : Nat} {x : Value} (hd : m ≤ d) : Stays m M { M.upd d x M.ow with ow := renOw s d M.ow } :=
  ⟨fun _ _ => rfl, fun k hk _ => if_neg (by omega), fun k ad _ hl => ren_cells h s d k ad hl, rfl, rfl⟩
theorem Stays.movedC (h : Core σ M w) {m s d : Nat} {x : Value} {ad : Addr} (hd : M.loc d = some ad) : Stays m M { M.upd d x M.ow with ow := renOw s d M.ow } :=
  ⟨fun _ _ => rfl, fun k hk hn => if_neg (fun e => by subst e; rw [hd] at hn; cases hn), fun k ad _ hl => ren_cells h s d k ad hl, rfl, rfl⟩
theorem Stays.updC {m d : Nat} {x : Value} {ad : Addr} (hd : M.loc d = some ad) : Stays m M (M.upd d x M.ow) :=
  ⟨fun _ _ => rfl, fun k hk hn => if_neg (fun e => by subst e; rw [hd] at hn; cases hn), fun k ad _ hl => rfl, rfl, rfl⟩
theorem moveOwn_length (s d : Nat) (e : TypeId) (L : List Sc) : (moveOwn σ s d e L).length = σ.length := by simp [moveOwn, setA_length]
def Turns (P : Program) (Y : Nat → Prop) (w0 : World) (m : Nat) (Mp : Mem) (nv nc : Nat) (a : Act) (w : World) (o : Oper) (k : List AV → Option R) (r : R) : Prop :=
  ∀ (next : Act → World → Prop) (Q : Exit → Act → World → Prop), (∀ M' σ' a' w', k σ' = some r → St Y w0 m Mp nv nc M' σ' a' w' → next a' w') → o.wp P a w next Q
theorem turns_of_gives (h : St Y w0 m Mp nv nc M σ a w) {o : Oper} {d : Option Tmp} (hd : o.dst = d) {k : List AV → Option R} {r : R} (hg : Gives P M σ a w o (fun v => k (put nv σ d v)) r) : Turns P Y w0 m Mp nv nc a w o k r := by
  intro next Q hn
  refine hg next Q fun v x w' hk hb hv => ?_
  obtain ⟨M', hst⟩ := h.put hb hv d
  rw [hd]
  exact hn M' _ _ _ hk hst
theorem Core.shareG (h : Core σ M w) {s : Nat} {e : TypeId} {L : List Sc} (hdp : dp e = false) (hs : σ.getD s .u = .own e L) : Core (Ev.shareG σ s e L) { M with ow := shOw s M.ow } w := by
  unfold Ev.shareG
  split
  · exact h.shareN hdp hs
  · rename_i he; exact h.share he hs
theorem shareG_length (σ : List AV) (s : Nat) (e : TypeId) (L : List Sc) : (Ev.shareG σ s e L).length = σ.length := by
  unfold Ev.shareG
  split
  · simp [Ev.shareN]
  · simp [Ev.share]
theorem shareG_at (σ : List AV) {s : Nat} {e : TypeId} {L : List Sc} (hs : s < σ.length) : (Ev.shareG σ s e L).getD s .u = .fr e L := by
  unfold Ev.shareG
  split
  · unfold Ev.shareN; exact getD_set_same _ _ _ _ (by simpa using hs)
  · unfold Ev.share; exact getD_set_same _ _ _ _ (by simpa using hs)
theorem St.shareIf (h : St Y w0 m Mp nv nc M σ a w) (s : Nat) : ∃ M', St Y w0 m Mp nv nc M' (Ev.shareIf σ s) a w := by
  unfold Ev.shareIf
  split
  · rename_i e L hs
    exact ⟨_, h.go (h.core.shareG (ownOf_dp hs) (ownOf_eq hs)) (Kept.refl (fun _ => False) w) (fun _ hf => hf.elim) (fun b q hb => .inl ⟨q, shOw_some hb⟩) (Stays.ow (sh_cells h.core s)) (a' := a) rfl rfl (shareG_length _ _ _ _) h.tmp h.loc⟩
  · exact ⟨M, h⟩
theorem St.shareIfs : ∀ (ks : List Nat) {M : Mem} {σ : List AV}, St Y w0 m Mp nv nc M σ a w → ∃ M', St Y w0 m Mp nv nc M' (ks.foldl Ev.shareIf σ) a w
  | [], M, _, h => ⟨M, h⟩
  | s :: ks, _, _, h => by
    obtain ⟨M', h'⟩ := h.shareIf s
    exact St.shareIfs ks h'
theorem step_assign (h : St Y w0 m Mp F.nv F.nc M σ a w) {o : Oper} {d : Option Tmp} (hd : o.dst = d) {x : Operand} (ho : o.op = .assign x) {k : List AV → Option R} {r : R} (hk : stepOp E cl H F σ d (.assign x) k = some r) : Turns P Y w0 m Mp F.nv F.nc a w o k r := by
  have run : (execOp a.eval o).run P w = .ok (.value (a.eval x)) w := by simp [execOp, ho]
  cases d with
  | none => simp [stepOp] at hk
  | some d =>
  have plain : ∀ {v : AV}, NV M w w σ v (a.eval x) → k (setA σ (F.nv + d) v) = some r → Turns P Y w0 m Mp F.nv F.nc a w o k r := by
    intro v hv hk' next Q hn
    obtain ⟨M', hst⟩ := h.setNew (Below.refl _ _) hv d
    exact wp_val run (by rw [hd]; exact hn M' _ _ _ hk' hst)
  have hev := h.evalN x
  simp only [stepOp] at hk
  split at hk
  · rename_i s hx
    rw [hx] at hev
    split at hk
    · split at hk
      · rename_i e L ho'
        split at hk
        · rename_i h1 h2
          have hs := ownAny_eq ho'
          have hsd : s ≠ F.nv + d := fun e' => by subst e'; simp at h1
          have hdl : F.nv + d < σ.length := by rwa [Nat.blt_eq] at h2
          intro next Q hn
          have hv : a.eval x = M.tm s := hev.2
          refine wp_val run ?_
          rw [hd, hv]
          have hst := h.go (h.core.moveT hs hsd hdl (h.locT d)) (Kept.refl (fun _ => False) w) (fun _ hf => hf.elim) (fun b q hb => .inl (renOw_some hb)) (Stays.moved h.core (h.below d)) (a' := a.put (some d) (M.tm s)) rfl (by simp [Act.put]) (moveOwn_length _ _ _ _) (tmp_put h d _ M.ow) h.loc
          unfold asgF at hk
          split at hk
          · obtain ⟨M2, h2⟩ := hst.shareIf (F.nv + d)
            exact hn _ _ _ _ hk h2
          · exact hn _ _ _ _ hk hst
        · cases hk
      · exact plain hev hk
    · exact plain hev hk
  · exact plain hev hk
theorem run_storeVar {t : TypeId} {i : TypeInfo} (hi : P.info? t = some i) (hs : i.size = 1) {ad : Addr} {v y : Value} (hy : v.cells = #[y]) (hy1 : y.oneCell' = true) {u : Value} (hc : w.cell? ad = some u) (hf : w.frozen? ad = false) : (storeVar t ad v).run P w = .ok () (w.setCell ad y) := by
  have hst : (store ad y).run P w = .ok () (w.setCell ad y) := by
    rw [run_store P w ad y .plain hy1, hc]
    simp [hf]
  simp [storeVar, run_sizeOf hi, hs, hy, storeCells, Addr.add_zero', hst]
theorem Sc.cells1 (y : Sc) : y.val.cells = #[y.val] ∧ y.val.oneCell' = true := by cases y <;> exact ⟨rfl, rfl⟩
theorem St.und (h : St Y w0 m Mp nv nc M σ a w) (d : Option Tmp) : ∃ M', St Y w0 m Mp nv nc M' (Ev.put nv σ d .und) (a.put d undef) w := h.put (Below.refl _ _) (v := .und) (x := undef) rfl d
theorem step_store (h : St Y w0 m Mp F.nv F.nc M σ a w) (hE : EnvOk P E) {o : Oper} {d : Option Tmp} (hd : o.dst = d) {t : TypeId} {p x : Operand} (ho : o.op = .store t p x) {k : List AV → Option R} {r : R} (hk : stepOp E cl H F σ d (.store t p x) k = some r) : Turns P Y w0 m Mp F.nv F.nc a w o k r := by
  have cell : ∀ {b : Nat} {ad : Addr} {i : TypeInfo} {y : Value} {σ' : List AV} {M' : Mem}, a.eval p = .pointer (some ad) → M.loc b = some ad → P.info? t = some i → i.size = 1 → (a.eval x).cells = #[y] → y.oneCell' = true →
      Core σ' M' (w.setCell ad y) → (∀ c q, M'.ow c = some q → ∃ q', M.ow c = some q') → Stays m M M' → M'.loc = M.loc → σ'.length = σ.length → (∀ t', t' < a.tmps.size → M'.tm (F.nv + t') = M.tm (F.nv + t')) →
      k (put F.nv σ' d .und) = some r → Turns P Y w0 m Mp F.nv F.nc a w o k r := by
    intro b ad i y σ' M' hp hl hi hs hc hc1 hcore how hst0 hloc hlen htm hk' next Q hn
    obtain ⟨c1, c2, c3, k0, n0, c4, c5⟩ := h.core.cell b ad hl
    have run : (execOp a.eval o).run P w = .ok .skip (w.setCell ad y) := by
      simp only [execOp, ho, hp, Instr.storeAt, Instr.sureAddr, Sem.run_bind, Sem.run_pure, Result.andThen_ok, run_storeVar hi hs hc hc1 c1 c2]
    unfold Oper.wp
    rw [run]
    have hst := h.go hcore (Kept.setCell w ad y) (fun b' hb => by subst hb; exact ⟨_, c4⟩) (fun b' q hb => .inl (how b' q hb)) hst0 rfl rfl hlen (fun t' ht => (htm t' ht).trans (h.tmp t' ht)) (fun q ad' hq => h.loc q ad' (hloc ▸ hq))
    obtain ⟨M2, hst2⟩ := hst.und d
    show next (a.put o.dst undef) _
    rw [hd]
    exact hn M2 _ _ _ hk' hst2
  have updT : ∀ {b : Nat} {ad : Addr} (v : Value) (ow' : Nat → Option Key), M.loc b = some ad → ∀ t', t' < a.tmps.size → (M.upd b v ow').tm (F.nv + t') = M.tm (F.nv + t') := by
    intro b ad v ow' hl t' _
    show (if F.nv + t' = b then v else M.tm (F.nv + t')) = _
    rw [if_neg (fun e' => by have := h.loc b ad hl; have := h.ncl; omega)]
  simp only [stepOp] at hk
  split at hk
  · rename_i s i hp
    split at hk
    · rename_i y ht hx
      split at hk
      · rename_i e L ho' hy
        split at hk
        · cases hk
        rename_i he
        have hs := ownOf_eq ho'
        have hev := (h.eval p).1
        rw [hp] at hev
        obtain ⟨_, g, n, cap, h2, h3, h4⟩ := hev
        obtain ⟨_, ti, e2, e3⟩ := hE.sc t ht
        obtain ⟨h5, h6⟩ := own_at h.core hs (ownOf_dp ho')
        obtain ⟨h5, _⟩ := h5.sc he
        obtain ⟨A', c', h7⟩ := ownsRow_slice h5
        rw [h2] at h7
        simp only [Value.slice.injEq] at h7
        have hn : n = L.length := h7.2.1
        subst hn
        rw [h2] at h5 h6
        have hcell := h5.cells (g := g) rfl i (L.getD i dflt).val (by simp [List.getD, h3])
        rw [Addr.add_lit, Nat.zero_add] at hcell
        have hfr := h5.frozenAt i
        have run : (execOp a.eval o).run P w = .ok .skip (w.setCell ⟨g, i, none⟩ y.val) := by
          simp only [execOp, ho, h4, eval_sc h hx, Instr.storeAt, Instr.sureAddr, Sem.run_bind, Sem.run_pure, Result.andThen_ok, run_storeVar e2 e3 (Sc.cells1 y).1 (Sc.cells1 y).2 hcell hfr]
        intro next Q hn
        unfold Oper.wp
        rw [run]
        have hst := h.go (h.core.store (i := i) y he hy hs h2) (Kept.setCell w ⟨g, i, none⟩ y.val) (fun b' hb => ⟨_, h6 b' (by rw [hb]; rfl)⟩) (fun b' q hb => .inl ⟨q, hb⟩) (Stays.refl _ _) rfl rfl (by simp) h.tmp h.loc
        obtain ⟨M2, hst2⟩ := hst.und d
        show next (a.put o.dst undef) _
        rw [hd]
        exact hn M2 _ _ _ hk hst2
      · cases hk
    · split at hk
      case h_2 => cases hk
      rename_i yz e L hls ho'
      split at hk
      case h_2 => cases hk
      rename_i y he hcn
      have hs := ownOf_eq ho'
      have hev := (h.eval p).1
      rw [hp] at hev
      obtain ⟨_, g, n, cap, h2, h3, h4⟩ := hev
      obtain ⟨hvf, hvw⟩ := cellN_spec h hcn
      obtain ⟨⟨e1, _⟩, _⟩ := hE.sl t yz.1 yz.2 hls
      obtain ⟨⟨⟨vs, h5, hHL⟩, _⟩, h6⟩ := own_at h.core hs (ownOf_dp ho')
      obtain ⟨A', c', h7⟩ := ownsRow_slice h5
      rw [h2] at h7
      simp only [Value.slice.injEq] at h7
      have hn : n = L.length := h7.2.1
      subst hn
      rw [h2] at h5 h6
      have hcell := h5.cells (g := g) rfl i (vs.getD i undef) (by have : i < vs.length := by rw [hHL.1]; exact h3
                                                                  simp [List.getD, this])
      rw [Addr.add_lit, Nat.zero_add] at hcell
      have hfr := h5.frozenAt i
      have hone : (a.eval x).cells = #[a.eval x] ∧ (a.eval x).oneCell' = true := by
        obtain ⟨d0, hd0⟩ : ∃ d0, dep e = d0 + 1 := ⟨dep e - 1, by have := dep_pos he; omega⟩
        rw [hd0] at hvw
        obtain ⟨K, hK, _⟩ := wf_l hvw
        rw [hK] at hvf
        obtain ⟨A, c, hA, _⟩ := HF_l.1 hvf
        rw [hA]
        exact ⟨rfl, rfl⟩
      have run : (execOp a.eval o).run P w = .ok .skip (w.setCell ⟨g, i, none⟩ (a.eval x)) := by
        obtain ⟨ti, hti, hts⟩ := hE.slz t yz.1 yz.2 hls
        simp only [execOp, ho, h4, Instr.storeAt, Instr.sureAddr, Sem.run_bind, Sem.run_pure, Result.andThen_ok, run_storeVar hti hts hone.1 hone.2 hcell hfr]
      intro next Q hn
      unfold Oper.wp
      rw [run]
      have hst := h.go (h.core.storeN (i := i) y (ownOf_dp ho') he hvf hvw hs h2) (Kept.setCell w ⟨g, i, none⟩ (a.eval x)) (fun b' hb => ⟨_, h6 b' (by rw [hb]; rfl)⟩) (fun b' q hb => .inl ⟨q, hb⟩) (Stays.refl _ _) rfl rfl (by simp) h.tmp h.loc
      obtain ⟨M2, hst2⟩ := hst.und d
      show next (a.put o.dst undef) _
      rw [hd]
      exact hn M2 _ _ _ hk hst2
    · cases hk
  · split at hk
    case h_2 => cases hk
    rename_i b hp
    obtain ⟨ad, hp1, hl⟩ := h.cellAt hp
    have hbl : b < σ.length := by have := h.loc b ad hl; have := h.len; have := h.ncl; omega
    split at hk
    · rename_i ht
      obtain ⟨_, i, hi, hs1⟩ := hE.one t ht
      have hev := h.eval x
      have plainC : ∀ {v : AV}, evalO F.nv σ x = v → (a.eval x).cells = #[a.eval x] → (a.eval x).oneCell' = true → k (put F.nv (setA σ b v) d .und) = some r → Turns P Y w0 m Mp F.nv F.nc a w o k r := by
        intro v hx hc hc1 hk'
        rw [hx] at hev
        exact cell hp1 hl hi hs1 hc hc1 (h.core.putCell hl hev.2 hev.1) (fun c q hq => ⟨q, hq⟩) (Stays.updC hl) rfl (setA_length _ _ _) (updT _ _ hl) hk'
      split at hk
      · rename_i s hx
        have hv : a.eval x = M.tm s := (eval_p h hx).2
        split at hk
        · rename_i e L ho'
          have hs := ownAny_eq ho'
          obtain ⟨A, c, hA⟩ := (own_any h.core hs).slice
          split at hk
          · rename_i hsb
            have hsb : s ≠ b := fun e' => by subst e'; simp at hsb
            refine cell (y := M.tm s) hp1 hl hi hs1 (by rw [hv, hA]; rfl) (by rw [hA]; rfl) (h.core.moveC hs hsb hbl hl) (fun c q hq => renOw_some hq) (Stays.movedC h.core hl) rfl (moveOwn_length _ _ _ _) (updT _ _ hl) hk
          · rename_i hsb
            have hsb : s = b := Nat.eq_of_beq_eq_true hsb
            subst hsb
            obtain ⟨c1, c2, c3, k0, n0, c4, c5⟩ := h.core.cell s ad hl
            have same : w.setCell ad (M.tm s) = w := by
              have hb := c1
              unfold World.cell? at hb
              split at hb
              · rename_i cs ce cf hh
                simp only [c3, Option.isSome_none, Bool.false_eq_true, if_false] at hb
                obtain ⟨hlt, hge⟩ := Array.getElem?_eq_some_iff.1 hb
                have e0 : w.setCell ad (M.tm s) = { w with heap := (w.setCell ad (M.tm s)).heap } := rfl
                have e1 : (w.setCell ad (M.tm s)).heap = w.heap := by
                  simp only [World.setCell]
                  apply Array.ext_getElem?
                  intro q
                  rw [Array.getElem?_modify]
                  split
                  · rename_i hq
                    subst hq
                    rw [hh]
                    simp only [Option.map_some, c3, Option.isSome_none, Bool.false_eq_true, if_false, Option.some.injEq, Obj.cells.injEq, and_true]
                    rw [← hge]
                    apply Array.ext_getElem?
                    intro q'
                    rw [Array.getElem?_setIfInBounds]
                    split
                    · rename_i e'; subst e'; simp [hlt]
                    · rfl
                  · rfl
                rw [e0, e1]
              · cases hb
            refine cell (y := M.tm s) (σ' := σ) (M' := M) hp1 hl hi hs1 (by rw [hv, hA]; rfl) (by rw [hA]; rfl) (by rw [same]; exact h.core) (fun c q hq => ⟨q, hq⟩) (Stays.refl _ _) rfl rfl (fun _ _ => rfl) hk
        · cases hk
      all_goals first | (cases hk; done) | skip
      rename_i v n1 n2 n3 n4 n5 n6 n7 n8
      have hcells : (a.eval x).cells = #[a.eval x] ∧ (a.eval x).oneCell' = true := by
        cases hx : evalO F.nv σ x with
        | u => exact absurd hx n2
        | mv => exact absurd hx n3
        | und => exact absurd hx n4
        | own e L => exact absurd hx (hev.2 e L)
        | tu fs => exact absurd hx (n5 fs)
        | fr e L =>
          have := hev.1
          rw [hx] at this
          obtain ⟨A, c, hA⟩ := this.1.slice
          rw [hA]; exact ⟨rfl, rfl⟩
        | ep s i => have := hev.1; rw [hx] at this; obtain ⟨_, g, n, cap, _, _, h4⟩ := this; rw [h4]; exact ⟨rfl, rfl⟩
        | fn f cap => have := hev.1; rw [hx] at this; obtain ⟨xs, h4, _⟩ := this; rw [h4]; exact ⟨rfl, rfl⟩
        | p y =>
          have := eval_p h hx
          cases y with
          | sc y => have : a.eval x = y.val := this; rw [this]; exact Sc.cells1 y
          | sl L => obtain ⟨A, c, h4, _⟩ := this; rw [h4]; exact ⟨rfl, rfl⟩
          | gr L => exact absurd hx (n6 L)
          | ev y => obtain ⟨ad', h4, _⟩ := this; rw [h4]; exact ⟨rfl, rfl⟩
          | el L => obtain ⟨ad', _, _, h4, _⟩ := this; rw [h4]; exact ⟨rfl, rfl⟩
          | al s => exact absurd hx (n1 s)
          | go s => exact absurd hx (n8 s)
          | pt b' n' => obtain ⟨ad', h4, _⟩ := this; rw [h4]; exact ⟨rfl, rfl⟩
          | fp b' => obtain ⟨ad', h4, _⟩ := this; rw [h4]; exact ⟨rfl, rfl⟩
          | st y => exact absurd hx (n7 y)
          | ll y => obtain ⟨A, c, h4, _⟩ := this; rw [h4]; exact ⟨rfl, rfl⟩
          | nl d' y => obtain ⟨A, c, h4, _⟩ := this; rw [h4]; exact ⟨rfl, rfl⟩
          | en d' y => obtain ⟨ad', _, _, h4, _⟩ := this; rw [h4]; exact ⟨rfl, rfl⟩
      exact plainC rfl hcells.1 hcells.2 hk
    · rename_i s0 ht hs0
      obtain ⟨fd, i, j, e1, e2, e3, e4, e5, e6, _⟩ := hE.gr t s0 hs0
      split at hk
      · rename_i L hx
        obtain ⟨A, c, h1, h2, h3⟩ := eval_p h hx
        exact cell (y := .slice A L.length c) hp1 hl e5 e6 (by rw [h1]; rfl) rfl (h.core.putCell hl (v := .p (.sl L)) (by simp) ⟨A, c, rfl, h2, h3⟩) (fun c q hq => ⟨q, hq⟩) (Stays.updC hl) rfl (setA_length _ _ _) (updT _ _ hl) hk
      · rename_i s hx
        have hv : a.eval x = .agg #[M.tm s] := (eval_p h hx).2
        split at hk
        · rename_i e L ho'
          have hs := ownOf_eq ho'
          obtain ⟨A, c, hA⟩ := (own_any h.core hs).slice
          split at hk
          · rename_i hsb _
            have hsb : s ≠ b := fun e' => by subst e'; simp at hsb
            exact cell (y := M.tm s) hp1 hl e5 e6 (by rw [hv]; rfl) (by rw [hA]; rfl) (h.core.moveC hs hsb hbl hl) (fun c q hq => renOw_some hq) (Stays.movedC h.core hl) rfl (moveOwn_length _ _ _ _) (updT _ _ hl) hk
          · cases hk
        · cases hk
      · cases hk
    · cases hk
theorem cells_alloc (w : World) (c : Array Value) (t : TypeId) {i : Nat} {x : Value} (h : c.toList[i]? = some x) : (w.alloc (.cells c t)).cell? ⟨w.heap.size, i, none⟩ = some x ∧ (w.alloc (.cells c t)).frozen? ⟨w.heap.size, i, none⟩ = false := by
  have hnew := heap_alloc_new w (.cells c t)
  constructor
  · simp only [World.cell?, hnew]
    simpa using h
  · simp only [World.frozen?, hnew]
    simp
theorem St.layG (h : St Y w0 m Mp nv nc M σ a w) {g b : Nat} {vs : List AV} {xs : List Value} (hg : Below w.heap.size w w') (hg1 : w.heap.size ≤ g) (hlt : g < w'.heap.size) (hn : 0 < vs.length) (hxs : xs.length = vs.length) (hbl : b + vs.length ≤ nc) (hmb : m ≤ b)
    (hcell : ∀ (i : Nat) x, xs[i]? = some x → w'.cell? ⟨g, i, none⟩ = some x ∧ w'.frozen? ⟨g, i, none⟩ = false)
    (hvs : ∀ (i : Nat) v x, vs[i]? = some v → xs[i]? = some x → GS { tm := fun t => if b ≤ t ∧ t < b + vs.length then xs.getD (t - b) undef else M.tm t, loc := fun t => if b ≤ t ∧ t < b + vs.length then some ⟨g, t - b, none⟩ else M.loc t, ow := fun x => if x = g then some (.c b vs.length) else M.ow x, fo := M.fo, fn := M.fn } w' (layAt b vs σ) (b + i) v x) (d : Nat) :
    ∃ M', St Y w0 m Mp nv nc M' (setA (layAt b vs σ) (nv + d) (.p (.pt b vs.length))) (a.put (some d) (.pointer (some ⟨g, 0, none⟩))) w' := by
  have hlen : σ.length = nv + a.tmps.size := h.len
  have hncl := h.ncl
  have hcore := Core.layG h.core (b := b) (vs := vs) (xs := xs) hg hg1 hlt hxs (by omega) hcell (h.fresh _ hg1) hvs
  have hst := h.go hcore (Kept.of_below hg (Y := fun _ => False)) (fun _ hf => hf.elim) (fun b' q hq => by
    have hq : (if b' = g then some (Key.c b vs.length) else M.ow b') = some q := hq
    split at hq
    · rename_i e; exact .inr (by omega)
    · exact .inl ⟨q, hq⟩) ⟨fun k hk => if_neg (fun hh => by omega), fun k hk _ => if_neg (fun hh => by omega), fun k ad _ hl => if_neg (fun e => by have := cell_lt (h.core.cell k ad hl).1; omega), rfl, rfl⟩ (a' := a) rfl rfl (layAt_length b vs) (fun t' ht => by
      show (if b ≤ nv + t' ∧ nv + t' < b + vs.length then _ else M.tm (nv + t')) = _
      rw [if_neg (fun hh => by omega)]
      exact h.tmp t' ht) (fun k ad hk => by
      have hk : (if b ≤ k ∧ k < b + vs.length then some ⟨g, k - b, none⟩ else M.loc k) = some ad := hk
      split at hk
      · rename_i hh; omega
      · exact h.loc k ad hk)
  refine hst.setNew (Below.refl _ _) (v := .p (.pt b vs.length)) ⟨g, rfl, hn, if_pos rfl, fun i hi => ?_⟩ d
  show (if b ≤ b + i ∧ b + i < b + vs.length then some (⟨g, b + i - b, none⟩ : Addr) else M.loc (b + i)) = _
  rw [if_pos ⟨by omega, by omega⟩, show b + i - b = i by omega]
theorem St.lay (h : St Y w0 m Mp nv nc M σ a w) {b : Nat} {vs : List AV} {c : Array Value} {t : TypeId} (hn : 0 < vs.length) (hxs : c.toList.length = vs.length) (hbl : b + vs.length ≤ nc) (hmb : m ≤ b)
    (hvs : ∀ (i : Nat) v x, vs[i]? = some v → c.toList[i]? = some x → GS M w σ 0 v x ∧ (∀ e L, v ≠ .own e L) ∧ hasR b vs.length v = false) (d : Nat) :
    ∃ M', St Y w0 m Mp nv nc M' (setA (layAt b vs σ) (nv + d) (.p (.pt b vs.length))) (a.put (some d) (.pointer (some ⟨w.heap.size, 0, none⟩))) (w.alloc (.cells c t)) := by
  have hg : Below w.heap.size w (w.alloc (.cells c t)) := (Below.refl _ _).alloc (Nat.le_refl _) _
  exact h.layG (xs := c.toList) hg (Nat.le_refl _) (by simp) hn hxs hbl hmb (fun i x hx => cells_alloc w c t hx) (fun i v x hv hx => by
    obtain ⟨h1, h2, h3⟩ := hvs i v x hv hx
    exact h.core.layV hg (Nat.le_refl _) h1 h2 h3) d
theorem step_alloc (hmF : F.m = m) (h : St Y w0 m Mp F.nv F.nc M σ a w) (hE : EnvOk P E) {o : Oper} {d : Option Tmp} (hd : o.dst = d) {t : TypeId} (ho : o.op = .alloc t) {k : List AV → Option R} {r : R} (hk : stepOp E cl H F σ d (.alloc t) k = some r) : Turns P Y w0 m Mp F.nv F.nc a w o k r := by
  simp only [stepOp] at hk
  split at hk
  · rename_i zs b d' hz _
    split at hk
    · rename_i hc
      simp only [Bool.and_eq_true] at hc
      have hc1 : 0 < zs.length := by have := hc.1; rwa [Nat.blt_eq] at this
      have hc2 : b + zs.length ≤ F.nc := Nat.le_of_ble_eq_true hc.2.1
      have hc3 : m ≤ b := hmF ▸ Nat.le_of_ble_eq_true hc.2.2
      obtain ⟨i, v, hi, hv, hlen, hall⟩ := hE.al t zs hz
      have run : (execOp a.eval o).run P w = .ok (.value (.pointer (some ⟨w.heap.size, 0, none⟩))) (w.alloc (.cells v.cells t)) := by
        simp [execOp, ho, Instr.alloc, zeroValue, typeInfo, hi, hv, newVar, newRow]
      intro next Q hn
      have hst := h.lay (b := b) (vs := zs.map pzA) (c := v.cells) (t := t) (by simpa using hc1) (by simpa using hlen) (by simpa using hc2) hc3 (fun j v1 x hu hx => by
        simp only [List.getElem?_map, Option.map_eq_some_iff] at hu
        obtain ⟨z, hz', rfl⟩ := hu
        have := hall j z x hz' hx
        cases z with
        | sc y => exact ⟨this, by simp [pzA], by simp [pzA, hasR, hasVA, hasPA, hasV, hasP]⟩
        | sl => exact ⟨⟨none, 0, this, Nat.le_refl _, .inl rfl⟩, by simp [pzA], by simp [pzA, hasR, hasVA, hasPA, hasV, hasP]⟩
        | fn => exact ⟨trivial, by simp [pzA], by simp [pzA, hasR, hasVA, hasPA]⟩) d'
      obtain ⟨M', hst⟩ := hst
      rw [List.length_map] at hst
      exact wp_val run (by rw [hd]; exact hn M' _ _ _ hk hst)
    · cases hk
  · cases hk
theorem step_box (hmF : F.m = m) (h : St Y w0 m Mp F.nv F.nc M σ a w) (hE : EnvOk P E) {o : Oper} {d : Option Tmp} (hd : o.dst = d) {t : TypeId} {x : Operand} (ho : o.op = .box t x) {k : List AV → Option R} {r : R} (hk : stepOp E cl H F σ d (.box t x) k = some r) : Turns P Y w0 m Mp F.nv F.nc a w o k r := by
  have run : (execOp a.eval o).run P w = .ok (.value (.pointer (some ⟨w.heap.size, 0, none⟩))) (w.alloc (.cells (a.eval x).cells t)) := by
    simp [execOp, ho, Instr.box, newVar, newRow]
  have hg : Below w.heap.size w (w.alloc (.cells (a.eval x).cells t)) := (Below.refl _ _).alloc (Nat.le_refl _) _
  have hfz : M.fz w.heap.size := by
    refine ⟨h.core.sub _ (h.fresh _ (Nat.le_refl _)), ?_⟩
    cases hq : M.ow w.heap.size with
    | none => rfl
    | some q => have := (h.core.low _ _ hq).1; omega
  have frozen : ∀ {v : AV} {d' : Nat}, o.dst = some d' → (∀ e L, v ≠ .own e L) → GS M (w.alloc (.cells (a.eval x).cells t)) σ 0 v (.pointer (some ⟨w.heap.size, 0, none⟩)) → k (setA σ (F.nv + d') v) = some r → Turns P Y w0 m Mp F.nv F.nc a w o k r := by
    intro v d' hd' hno hv hk' next Q hn
    obtain ⟨M', hst⟩ := h.setNew hg (NV_of hno hv) d'
    exact wp_val run (by rw [hd']; exact hn M' _ _ _ hk' hst)
  have keepP : ∀ {y : Pv} {z : Value}, GP M w σ y z → GP M (w.alloc (.cells (a.eval x).cells t)) σ y z := fun hy => GP.keep (fun _ _ hr => ⟨hr, rfl⟩) (fun _ _ _ hk => ⟨hk, rfl⟩) (fun b hb hf => ⟨hg.block b hb, hf⟩) hy
  simp only [stepOp] at hk
  split at hk
  · rename_i d' _
    split at hk
    · rename_i y hx
      split at hk
      · have e1 : a.eval x = y.val := eval_sc h hx
        refine frozen (v := .p (.ev y)) hd (by simp) ⟨_, rfl, hfz, ?_⟩ hk
        exact (cells_alloc w _ t (by rw [e1, (Sc.cells1 y).1]; rfl)).1
      · cases hk
    · rename_i L hx
      split at hk
      · obtain ⟨A, c, h1, h2, h3⟩ := keepP (eval_p h hx)
        refine frozen (v := .p (.el L)) hd (by simp) ⟨_, A, c, rfl, hfz, ?_, h2, h3⟩ hk
        exact (cells_alloc w _ t (by rw [h1]; rfl)).1
      · cases hk
    · rename_i L hx
      split at hk
      · obtain ⟨A, c, h1, h2, h3⟩ := keepP (eval_p h hx)
        refine frozen (v := .p (.el L)) hd (by simp) ⟨_, A, c, rfl, hfz, ?_, h2, h3⟩ hk
        exact (cells_alloc w _ t (by rw [h1]; rfl)).1
      · cases hk
    · rename_i e L hx
      split at hk
      · rename_i he
        have hev := (h.eval x).1
        rw [hx] at hev
        obtain ⟨A, c, h1, h2, h3⟩ := keepP (fr_sl h.core he hev)
        refine frozen (v := .p (.el L)) hd (by simp) ⟨_, A, c, rfl, hfz, ?_, h2, h3⟩ hk
        exact (cells_alloc w _ t (by rw [h1]; rfl)).1
      · cases hk
    · cases hk
  · rename_i b d' _
    split at hk
    · rename_i vs hbx
      split at hk
      · rename_i hc
        simp only [Bool.and_eq_true] at hc
        have hc1 : 0 < vs.length := by have := hc.1; rwa [Nat.blt_eq] at this
        have hc2 : b + vs.length ≤ F.nc := Nat.le_of_ble_eq_true hc.2.1
        have hc3 : m ≤ b := hmF ▸ Nat.le_of_ble_eq_true hc.2.2
        unfold boxSt at hbx
        split at hbx
        · rename_i fs hx
          split at hbx
          · split at hbx
            · simp only [Option.some.injEq] at hbx
              subst hbx
              obtain ⟨xs, h1, h2, h3⟩ := eval_p h hx
              intro next Q hn
              obtain ⟨M', hst⟩ := h.lay (b := b) (vs := fs.map fvA) (c := (a.eval x).cells) (t := t) hc1 (by rw [h1]; simp [Value.cells, h2]) hc2 hc3 (fun i v1 y hu hy => by
                rw [List.getElem?_map, Option.map_eq_some_iff] at hu
                obtain ⟨f, hf, rfl⟩ := hu
                rw [h1] at hy
                have := h3 i f y hf (by simpa [Value.cells] using hy)
                cases f with
                | sc z => exact ⟨this, by simp [fvA], by simp [fvA, hasR, hasVA, hasPA, hasV, hasP]⟩
                | sl L => exact ⟨this, by simp [fvA], by simp [fvA, hasR, hasVA, hasPA, hasV, hasP]⟩) d'
              exact wp_val run (by rw [hd]; exact hn M' _ _ _ hk hst)
            · cases hbx
          · cases hbx
        · cases hbx
      · cases hk
    · split at hk
      · rename_i v hb hv
        simp only [Bool.and_eq_true] at hb
        have hbm : m ≤ b := hmF ▸ Nat.le_of_ble_eq_true hb.2
        have hb : b + 1 ≤ F.nc := by have := hb.1; rwa [Nat.blt_eq] at this
        split at hk
        · cases hk
        · rename_i hr
          have laid : ∀ (z : Value), (a.eval x).cells = #[z] → GS M w σ 0 v z → (∀ e L, v ≠ .own e L) → Turns P Y w0 m Mp F.nv F.nc a w o k r := by
            intro z hz hg' hno next Q hn
            obtain ⟨M', hst⟩ := h.lay (b := b) (vs := [v]) (c := (a.eval x).cells) (t := t) (by simp) (by rw [hz]; rfl) hb hbm (fun i v1 y hu hy => by
              rw [hz] at hy
              cases i with
              | zero =>
                simp only [List.getElem?_cons_zero, Option.some.injEq] at hu hy
                subst hu hy
                exact ⟨hg', hno, hr⟩
              | succ i => simp at hu) d'
            exact wp_val run (by rw [hd]; exact hn M' _ _ _ hk hst)
          split at hv
          · rename_i y hx
            split at hv
            · simp only [Option.some.injEq] at hv
              subst hv
              have e1 : a.eval x = y.val := eval_sc h hx
              exact laid y.val (by rw [e1]; exact (Sc.cells1 y).1) rfl (by simp)
            · cases hv
          · rename_i L hx
            split at hv
            · simp only [Option.some.injEq] at hv
              subst hv
              obtain ⟨A, c, h1, h2⟩ := eval_p h hx
              exact laid (.slice A L.length c) (by rw [h1]; rfl) ⟨A, c, rfl, h2⟩ (by simp)
            · cases hv
          · rename_i s hx
            split at hv
            · rename_i q ht ho'
              simp only [Option.some.injEq] at hv
              subst hv
              obtain ⟨h1, h2⟩ := eval_p h hx
              obtain ⟨A, c, hA⟩ := (own_any h.core (ownAny_eq (e := q.1) (L := q.2) ho')).slice
              exact laid (M.tm s) (by rw [h2, hA]; rfl) ⟨h1, rfl⟩ (by simp)
            · cases hv
          · rename_i L hx
            split at hv
            · simp only [Option.some.injEq] at hv
              subst hv
              obtain ⟨A, c, h1, h2⟩ := eval_p h hx
              exact laid (.slice A L.length c) (by rw [h1]; rfl) ⟨A, c, rfl, h2⟩ (by simp)
            · cases hv
          · rename_i s hx
            split at hv
            · simp only [Option.some.injEq] at hv
              subst hv
              obtain ⟨h1, h2⟩ := eval_p h hx
              exact laid (M.tm s) (by rw [h2]; rfl) ⟨h1, rfl⟩ (by simp)
            · cases hv
          · cases hv
      · cases hk
  · cases hk
theorem fill_st (h : St Y w0 m Mp nv nc M σ a w) {place : Nat → Option (Nat × Nat)} {n : Nat} (hpl : ∀ i, i < n → place i = some (i, 1)) : ∀ (ps : List (Nat × Operand)) (qs : List (Nat × Fv)) (fs : List Fv) (xs : List Value), partsF nv σ ps = some qs → (∀ q ∈ qs, q.1 < n) → xs.length = n → fs.length = n →
    (∀ (i : Nat) f y, fs[i]? = some f → xs[i]? = some y → FP w M.fz f y) →
    ∃ ys : List Value, Instr.fill place xs.toArray (ps.map fun p => (p.1, a.eval p.2)) = some ys.toArray ∧ ys.length = n ∧ (setF qs fs).length = n ∧ ∀ (i : Nat) f y, (setF qs fs)[i]? = some f → ys[i]? = some y → FP w M.fz f y
  | [], qs, fs, xs, hp, _, hx, hf, hfx => by
    simp only [partsF, Option.some.injEq] at hp
    subst hp
    exact ⟨xs, rfl, hx, hf, hfx⟩
  | (i, x) :: r, qs, fs, xs, hp, hq, hx, hf, hfx => by
    have fin : ∀ (f : Fv), (a.eval x).cells = #[a.eval x] → FP w M.fz f (a.eval x) → (partsF nv σ r).map ((i, f) :: ·) = some qs → ∃ ys : List Value, Instr.fill place xs.toArray (((i, x) :: r).map fun p => (p.1, a.eval p.2)) = some ys.toArray ∧ ys.length = n ∧ (setF qs fs).length = n ∧ ∀ (i : Nat) f y, (setF qs fs)[i]? = some f → ys[i]? = some y → FP w M.fz f y := by
      intro f hc hv hp2
      clear hp
      simp only [Option.map_eq_some_iff] at hp2
      obtain ⟨q', hp, rfl⟩ := hp2
      have hi : i < n := hq (i, f) List.mem_cons_self
      obtain ⟨ys, g1, g2, g3, g4⟩ := fill_st h hpl r q' (fs.set i f) (xs.set i (a.eval x)) hp (fun q hm => hq q (List.mem_cons_of_mem _ hm)) (by simpa using hx) (by simpa using hf) (fun j f' y hf' hy => by
        by_cases hji : i = j
        · subst hji
          rw [List.getElem?_set_self (by omega)] at hf' hy
          injection hf' with hf'
          injection hy with hy
          subst hf' hy
          exact hv
        · rw [List.getElem?_set_ne hji] at hf' hy
          exact hfx j f' y hf' hy)
      refine ⟨ys, ?_, g2, g3, g4⟩
      simp only [List.map_cons, Instr.fill, hpl i hi, hc]
      rw [if_neg (by simp [hx]; omega)]
      rw [← g1]
      simp
    simp only [partsF] at hp
    split at hp
    · rename_i y hx'
      have e1 : a.eval x = y.val := eval_sc h hx'
      exact fin (.sc y) (by rw [e1]; exact (Sc.cells1 y).1) e1 hp
    · rename_i L hx'
      obtain ⟨A, c, h1, h2⟩ := eval_p h hx'
      exact fin (.sl L) (by rw [h1]; rfl) ⟨A, c, h1, h2⟩ hp
    · rename_i e L hx'
      split at hp
      · cases hp
      rename_i he
      have hev := (h.eval x).1
      rw [hx'] at hev
      obtain ⟨A, c, h1, h2⟩ := fr_sl h.core he hev
      exact fin (.sl L) (by rw [h1]; rfl) ⟨A, c, h1, h2⟩ hp
    · cases hp
theorem zeroF_spec {Z : Nat → Prop} : ∀ {zs : List Pz} {fs : List Fv} {xs : List Value}, zeroF zs = some fs → xs.length = zs.length → (∀ (j : Nat) z x, zs[j]? = some z → xs[j]? = some x → (match z with | .sc y => x = y.val | .sl => x = .slice none 0 0 | .fn => True)) →
    fs.length = zs.length ∧ ∀ (i : Nat) f y, fs[i]? = some f → xs[i]? = some y → FP w Z f y
  | [], fs, xs, h, _, _ => by simp only [zeroF, Option.some.injEq] at h; subst h; exact ⟨rfl, fun i f y h => by simp at h⟩
  | z :: r, fs, xs, h, hl, hx => by
    cases xs with
    | nil => simp at hl
    | cons x xs =>
      have fin : ∀ f, FP w Z f x → (zeroF r).map (f :: ·) = some fs → fs.length = (z :: r).length ∧ ∀ (i : Nat) f y, fs[i]? = some f → (x :: xs)[i]? = some y → FP w Z f y := by
        intro f hf h2
        clear h
        simp only [Option.map_eq_some_iff] at h2
        obtain ⟨q, h, rfl⟩ := h2
        obtain ⟨g1, g2⟩ := zeroF_spec h (by simpa using hl) (fun j z x hz hx' => hx (j + 1) z x (by simpa using hz) (by simpa using hx'))
        refine ⟨by simp [g1], fun i f' y hf' hy => ?_⟩
        cases i with
        | zero =>
          simp only [List.getElem?_cons_zero, Option.some.injEq] at hf' hy
          subst hf' hy
          exact hf
        | succ i => exact g2 i f' y (by simpa using hf') (by simpa using hy)
      have h0 := hx 0 z x rfl rfl
      cases z with
      | sc y => exact fin (.sc y) h0 h
      | sl => exact fin (.sl []) ⟨none, 0, h0, Nat.le_refl _, .inl rfl⟩ h
      | fn => cases h
theorem step_build (h : St Y w0 m Mp F.nv F.nc M σ a w) (hE : EnvOk P E) {o : Oper} {d : Option Tmp} (hd : o.dst = d) {t : TypeId} {parts : Array (Nat × Operand)} (ho : o.op = .build t parts) {k : List AV → Option R} {r : R} (hk : stepOp E cl H F σ d (.build t parts) k = some r) : Turns P Y w0 m Mp F.nv F.nc a w o k r := by
  simp only [stepOp] at hk
  split at hk
  · rename_i s x hs hparts
    have hp' : parts = #[(0, x)] := Array.toList_inj.1 hparts
    subst hp'
    obtain ⟨fd, i, j, e1, e2, e3, e4, e5, e6, ⟨e7, e, e8⟩, z, e9⟩ := hE.gr t s hs
    have run : ∀ (A : Option Addr) (n c : Nat), a.eval x = .slice A n c → (execOp a.eval o).run P w = .ok (.value (.agg #[.slice A n c])) w := by
      intro A n c hx
      simp [execOp, ho, hx, Instr.build, zeroValue, typeInfo, e5, e9, run_underlying e1, Value.cells, run_sizeOf e3, e4, e2, Instr.fill]
    have fin : ∀ (v : AV) (A : Option Addr) (n c : Nat), a.eval x = .slice A n c → (∀ e L, v ≠ .own e L) → GS M w σ 0 v (.agg #[.slice A n c]) → k (put F.nv σ d v) = some r → Turns P Y w0 m Mp F.nv F.nc a w o k r := by
      intro v A n c hx hno hv hk' next Q hn
      obtain ⟨M', hst⟩ := h.put (Below.refl _ _) (NV_of hno hv) d
      exact wp_val (run A n c hx) (by rw [hd]; exact hn M' _ _ _ hk' hst)
    split at hk
    · rename_i L hx
      obtain ⟨A, c, h1, h2, h3⟩ := eval_p h hx
      exact fin (.p (.gr L)) A _ c h1 (by simp) ⟨A, c, rfl, h2, h3⟩ hk
    · rename_i e' L hx
      split at hk
      · cases hk
      rename_i he
      have hev := (h.eval x).1
      rw [hx] at hev
      obtain ⟨A, c, h1, h2, h3⟩ := fr_sl h.core he hev
      exact fin (.p (.gr L)) A _ c h1 (by simp) ⟨A, c, rfl, h2, h3⟩ hk
    · rename_i q hx
      split at hk
      · rename_i e' L ho'
        obtain ⟨h1, h2⟩ := eval_p h hx
        obtain ⟨A, c, hA⟩ := (own_any h.core (ownOf_eq ho')).slice
        exact fin (.p (.go q)) A _ c (h2.trans hA) (by simp) ⟨h1, by rw [hA]⟩ hk
      · cases hk
    · cases hk
  · rename_i hgr
    split at hk
    · rename_i n zs hfd hal
      split at hk
      · rename_i zf qs hzn hzf hps
        simp only [Bool.and_eq_true] at hzn
        have hz : zs.length = n := Nat.eq_of_beq_eq_true hzn.1
        have hn3 : n = 3 := Nat.eq_of_beq_eq_true hzn.2
        split at hk
        · rename_i hq
          rw [List.all_eq_true] at hq
          obtain ⟨fds, e1, e2, e3⟩ := hE.fd t n hfd
          obtain ⟨i, v, e4, e5, e6, e7⟩ := hE.al t zs hal
          obtain ⟨z1, z2⟩ := zeroF_spec (w := w) (Z := M.fz) (xs := v.cells.toList) hzf e6 e7
          subst hn3
          obtain ⟨l⟩ := fds
          match l, e2 with
          | [f0, f1, f2], _ =>
          obtain ⟨a0, i0, b0, c0⟩ := e3 0 f0 rfl
          obtain ⟨a1, i1, b1, c1⟩ := e3 1 f1 rfl
          obtain ⟨a2, i2, b2, c2⟩ := e3 2 f2 rfl
          have hpl : ∀ i, i < 3 → (fun (x : Nat) => ([(0, 1), (1, 1), (2, 1)] : List (Nat × Nat))[x]?) i = some (i, 1) := fun i hi => by
            match i, hi with
            | 0, _ => rfl
            | 1, _ => rfl
            | 2, _ => rfl
          obtain ⟨ys, g1, g2, g3, g4⟩ := fill_st h hpl parts.toList qs zf v.cells.toList hps (fun q hm => by have := hq q hm; rwa [Nat.blt_eq] at this) (by rw [e6]; exact hz) (by rw [z1]; exact hz) z2
          have run : (execOp a.eval o).run P w = .ok (.value (.agg ys.toArray)) w := by
            have g1' : Instr.fill (fun x => ([(0, 1), (1, 1), (2, 1)] : List (Nat × Nat))[x]?) v.cells (List.map (fun p => (p.1, a.eval p.2)) parts.toList) = some ys.toArray := by rw [Array.toArray_toList] at g1; exact g1
            simp [execOp, ho, Instr.build, zeroValue, typeInfo, e4, e5, run_underlying e1, run_sizeOf b0, run_sizeOf b1, run_sizeOf b2, a0, a1, a2, c0, c1, c2]
            rw [g1']
            simp
          intro next Q hn
          obtain ⟨M', hst⟩ := h.put (v := .p (.st (setF qs zf))) (x := .agg ys.toArray) (Below.refl _ _) (NV_of (by simp) ⟨ys, rfl, by rw [g2, g3], g4⟩) d
          exact wp_val run (by rw [hd]; exact hn M' _ _ _ hk hst)
        · cases hk
      · cases hk
    · cases hk
  · cases hk
theorem NV_frz {nv nc : Nat} {w' : World} (h : St Y w0 m Mp nv nc M σ a w) {v : AV} {x : Value} (hv : NV M w w' σ v x) (d : Option Tmp) : NV M w w' σ (frzV F d v) x := by
  have key : ∀ {e : TypeId} {L : List Sc}, Row w' (fun b => M.fz b ∧ b < w.heap.size) w.heap.size e x L → ∀ b, x.ownBlock = some b → M.fn b ∧ M.ow b = none := by
    intro e L hv b hb'
    have := hv.lt hb'
    refine ⟨h.fresh b this.1, ?_⟩
    cases hq : M.ow b with
    | none => rfl
    | some q => have := (h.core.low _ _ hq).1; omega
  unfold frzV
  split
  · rename_i e L _
    have hv : Row w' (fun b => M.fz b ∧ b < w.heap.size) w.heap.size e x L := hv.1
    exact ⟨(hv.keep (fun _ _ => rfl) (fun _ b _ hf => ⟨rfl, hf.1⟩)).mono (Nat.zero_le _), key hv⟩
  · rename_i e L _ _
    have hv : Row w' (fun b => M.fz b ∧ b < w.heap.size) w.heap.size e x L := hv.1
    have hk := key hv
    obtain ⟨A, c, rfl⟩ := hv.slice
    obtain ⟨_, h6, h7, h8⟩ := hv.read (Z := M.fz) (fun _ _ _ hf => hf.1) fun b hb => ⟨h.core.sub b (hk b hb).1, (hk b hb).2⟩
    exact slv_of rfl h6 h7 h8
  · exact hv
theorem turns_of_givesF (h : St Y w0 m Mp F.nv F.nc M σ a w) {o : Oper} {d : Option Tmp} (hd : o.dst = d) {k : List AV → Option R} {r : R} (hg : Gives P M σ a w o (fun v => k (put F.nv σ d (frzV F d v))) r) : Turns P Y w0 m Mp F.nv F.nc a w o k r := by
  intro next Q hn
  refine hg next Q fun v x w' hk hb hv => ?_
  obtain ⟨M', hst⟩ := h.put hb (NV_frz h (F := F) hv d) d
  rw [hd]
  exact hn M' _ _ _ hk hst
theorem okDeep_spec {e : TypeId} (h : okDeep e = true) : dp e = true ∧ dep (ud e) = dpn (inn e) + 1 ∧ (dp (inn e) = true ∨ isN (inn e) = false) := by
  unfold okDeep at h
  simp only [Bool.and_eq_true, Bool.or_eq_true, Bool.not_eq_true'] at h
  exact ⟨h.1, nbeq.1 h.2.1, h.2.2⟩
theorem RowO.toDO {M : Mem} {t : Nat} {e : TypeId} {x : Value} {L : List Sc} (h : RowO M w t e x L) (he : dp e = true ∨ isN e = false) : DO M.ow w t (dpn e) [] e x L := by
  unfold dpn
  cases hd : dp e with
  | true => exact (RowO.deep hd).1 h
  | false =>
    obtain ⟨h1, h2⟩ := (RowO.flat hd).1 h
    have hn : isN e = false := by rcases he with he | he; rw [hd] at he; cases he; exact he
    exact ⟨⟨h1.keep (fun _ _ => rfl) (fun hh => by rw [hn] at hh; cases hh), hn⟩, h2⟩
theorem DO.toRowO {M : Mem} {t : Nat} {e : TypeId} {x : Value} {L : List Sc} (h : DO M.ow w t (dpn e) [] e x L) : RowO M w t e x L := by
  unfold dpn at h
  cases hd : dp e with
  | true => rw [hd] at h; exact (RowO.deep hd).2 h
  | false =>
    rw [hd] at h
    obtain ⟨⟨h1, h2⟩, h3⟩ := h
    exact (RowO.flat hd).2 ⟨h1.keep (fun _ _ => rfl) (fun hh => by rw [h2] at hh; cases hh), h3⟩
def reOw (s : Nat) (φ : List Nat → Option Key) (ow : Nat → Option Key) (b : Nat) : Option Key := match ow b with
  | some (.r q p) => if q = s then φ p else some (.r q p)
  | x => x
theorem reOw_s {s b : Nat} {φ : List Nat → Option Key} {ow : Nat → Option Key} {p : List Nat} (h : ow b = some (.r s p)) : reOw s φ ow b = φ p := by simp [reOw, h]
theorem reOw_ne {s b t : Nat} {φ : List Nat → Option Key} {ow : Nat → Option Key} {p : List Nat} (h : ow b = some (.r t p)) (ht : t ≠ s) : reOw s φ ow b = some (.r t p) := by simp [reOw, h, ht]
theorem reOw_none {s b : Nat} {φ : List Nat → Option Key} {ow : Nat → Option Key} (h : ow b = none) : reOw s φ ow b = none := by simp [reOw, h]
theorem reOw_c {s b k n : Nat} {φ : List Nat → Option Key} {ow : Nat → Option Key} (h : ow b = some (.c k n)) : reOw s φ ow b = some (.c k n) := by simp [reOw, h]
theorem reOw_some {s b : Nat} {φ : List Nat → Option Key} {ow : Nat → Option Key} {q : Key} (h : reOw s φ ow b = some q) : ∃ q', ow b = some q' := by
  cases ho : ow b with
  | none => rw [reOw_none ho] at h; cases h
  | some q' => exact ⟨q', rfl⟩
theorem Core.rekey (h : Core σ M w) {s : Nat} (hs : σ.getD s .u = .u) (φ : List Nat → Option Key) : Core σ { M with ow := reOw s φ M.ow } w := by
  refine Core.gen h (fun t => t = s) (fun t ht => ⟨.inl rfl, .inr rfl⟩) (fun t q _ _ hr => ⟨hr, rfl⟩) (fun _ k ad _ _ hk => ⟨hk, by obtain ⟨_, _, _, k0, n0, h1, _⟩ := h.cell k ad hk; show reOw s φ M.ow ad.block = _; rw [reOw_c h1, h1]⟩) (fun b _ hf => ⟨rfl, hf.1, reOw_none hf.2⟩) (fun b t p _ ht hp => ⟨rfl, reOw_ne hp ht⟩) (fun _ hb => hb) (fun t ht => ?_) (fun k ad hk => ?_) (fun b q hb => ?_) h.sub
  · have ht : t = s := ht
    subst ht
    rw [hs]; trivial
  · obtain ⟨h1, h2, h3, k0, n0, h4, h5⟩ := h.cell k ad hk
    exact ⟨h1, h2, h3, k0, n0, reOw_c h4, h5⟩
  · obtain ⟨q', hq'⟩ := reOw_some hb
    exact h.low b q' hq'
theorem reOw_cells (h : Core σ M w) (s : Nat) (φ : List Nat → Option Key) : ∀ k ad, M.loc k = some ad → reOw s φ M.ow ad.block = M.ow ad.block := fun k ad hk => by
  obtain ⟨_, _, _, k0, n0, h1, _⟩ := h.cell k ad hk
  rw [reOw_c h1, h1]
theorem Core.newDeep (h : Core σ M w) (hg : Below w.heap.size w w') {s d : Nat} {e : TypeId} {x : Value} {L : List Sc} (hd : M.loc d = none) (hfn : ∀ b, w.heap.size ≤ b → M.fn b) (hs : σ.getD s .u = .u ∨ L = []) (ho : okDeep e = true)
    (hrow : w'.ownsRow w.heap.size (unF e) 1 x L.length (L.map fun _ => M.tm s)) (hin : ∀ y ∈ L, ∃ K, y = .l K ∧ DO M.ow w s (dpn (inn e)) [] (inn e) (M.tm s) K) (hl : L.length ≤ 1) :
    ∃ ow', Core (setA σ d (.own e L)) (M.upd d x ow') w' ∧ (∀ b q, ow' b = some q → (∃ q', M.ow b = some q') ∨ w.heap.size ≤ b) ∧ ∀ k ad, M.loc k = some ad → ow' ad.block = M.ow ad.block := by
  obtain ⟨o1, o2, o3⟩ := okDeep_spec ho
  obtain ⟨φ, hφ⟩ : ∃ φ : List Nat → Option Key, φ = if L = [] then (fun p => some (.r s p)) else (fun p => some (.r d (0 :: p))) := ⟨_, rfl⟩
  have h1 : Core σ { M with ow := reOw s φ M.ow } w := by
    rcases hs with hs | hs
    · exact h.rekey hs φ
    · have : reOw s φ M.ow = M.ow := by
        funext b
        unfold reOw
        rw [hφ, if_pos hs]
        split
        · rename_i q p hq
          rw [hq]
          by_cases hqs : q = s
          · rw [if_pos hqs, hqs]
          · rw [if_neg hqs]
        · rfl
      rw [this]
      exact h
  have hlow : ∀ b, x.ownBlock = some b → w.heap.size ≤ b ∧ b < w'.heap.size := fun b hb => ownBlock_lt hrow hb
  have hnew : ∀ b, b < w.heap.size → x.ownBlock ≠ some b := fun b hb e' => by have := (hlow b e').1; omega
  refine ⟨fun b => if x.ownBlock = some b then some (.r d []) else reOw s φ M.ow b, Core.put h1 d _ x _ (fun b hb hf => ⟨hg.block b hb, ?_⟩) (fun b t p hb ht hp => ⟨hg.block b hb, ?_⟩) (fun k ad hk => ?_) (fun b q hb => ?_) (fun _ => ?_), fun b q hb => ?_, fun k ad hk => ?_⟩
  · rw [if_neg (hnew b hb)]; exact hf.2
  · rw [if_neg (hnew b hb)]; exact hp
  · have hk : M.loc k = some ad := hk
    obtain ⟨c1, c2, c3⟩ := h.cell k ad hk
    have hkd : k ≠ d := fun e => by subst e; rw [hd] at hk; cases hk
    rw [if_neg hkd]
    refine ⟨cell_same c1 (hg.block _ (cell_lt c1)), (World.frozen?_of_block (hg.block _ (cell_lt c1))).trans c2, ?_⟩
    rw [if_neg (hnew _ (cell_lt c1))]
  · split at hb
    · rename_i hx; exact ⟨(hlow b hx).2, hfn b (hlow b hx).1⟩
    · obtain ⟨q', hq'⟩ := reOw_some hb
      exact ⟨Nat.lt_of_lt_of_le (h.low b q' hq').1 hg.size, (h.low b q' hq').2⟩
  · refine (RowO.deep o1).2 ?_
    rw [o2]
    refine ⟨⟨o1, _, ownsRow_mono hrow (Nat.zero_le _), by simp, fun i y v hy hv => ?_⟩, fun b hb => ?_⟩
    · obtain ⟨K, rfl, hK⟩ := hin y (List.mem_of_getElem? hy)
      have hi : i = 0 := by have := (List.getElem?_eq_some_iff.1 hy).1; omega
      subst hi
      rw [List.getElem?_map, hy] at hv
      injection hv with hv
      subst hv
      refine ⟨K, rfl, hK.keep fun b q hb hq => ⟨hg.block b hb, ?_⟩⟩
      show (if x.ownBlock = some b then some (Key.r d []) else reOw s φ M.ow b) = _
      rw [if_neg (hnew b hb), reOw_s hq, hφ, if_neg (fun e' => by rw [e'] at hy; cases hy)]
      rfl
    · show (if x.ownBlock = some b then some (Key.r d []) else reOw s φ M.ow b) = _
      rw [if_pos hb]
  · have hb : (if x.ownBlock = some b then some (Key.r d []) else reOw s φ M.ow b) = some q := hb
    split at hb
    · rename_i hx; exact .inr (hlow b hx).1
    · exact .inl (reOw_some hb)
  · have hk' : M.loc k = some ad := hk
    show (if x.ownBlock = some ad.block then some (Key.r d []) else reOw s φ M.ow ad.block) = _
    rw [if_neg (hnew _ (cell_lt (h.cell k ad hk').1))]
    exact reOw_cells h s φ k ad hk'
theorem unF_add (a b : Nat) : ((a + 1) * 1000000000 + b) % 1000000 = b % 1000000 := by omega
theorem deepE_sl {e : TypeId} {t : TypeId} {n : Nat} (h : deepE E n t = some e) (hd : dp e = true) : ∃ e1 z, look E.sl t = some (e1, z) ∧ unF e = unF e1 := by
  cases n with
  | zero => cases h
  | succ n =>
    unfold deepE at h
    split at h
    · rename_i e1 z hs
      refine ⟨e1, z, hs, ?_⟩
      split at h
      · obtain rfl := Option.some.inj h; rfl
      · simp only [Option.map_eq_some_iff] at h
        obtain ⟨e', _, rfl⟩ := h
        exact unF_add e' e1
    · cases h
theorem run_parts (hE : EnvOk P E) {t : TypeId} {e1 : TypeId} {z : Sc} (hs : look E.sl t = some (e1, z)) {o : Oper} {n : Nat} {parts : Array (Nat × Operand)} (ho : o.op = .buildSlice t n parts) {vs : List Value} (hvl : vs.length = n) (hn : n < 1000)
    (hp : List.map (fun p => (p.1, a.eval p.2)) parts.toList = (vs.zipIdx 0).map fun p => (p.2, p.1)) (hvc : ∀ v ∈ vs, v.cells = #[v]) : (execOp a.eval o).run P w = .ok (.value (.slice (some ⟨w.heap.size, 0, none⟩) n n)) (w.alloc (.cells vs.toArray (unF e1))) := by
  obtain ⟨⟨e1', ti, e2, e3, e4, e5⟩, _⟩ := hE.sl t e1 z hs
  have hfill : ∀ (row : Array Value), row.size = n → Instr.fill (fun i => some (i, 1)) row (List.map (fun p => (p.1, a.eval p.2)) parts.toList) = some vs.toArray := by
    intro row hrow
    have := fill_rowV vs [] row.toList hvc (by rw [Array.length_toList, hrow, hvl])
    simp only [List.nil_append, List.length_nil, Array.toArray_toList, Nat.mul_one] at this
    rw [hp]
    exact this
  have hzc : z.val.cells = #[z.val] := by cases z <;> rfl
  have h24 : ¬ (16777216 < n) := by omega
  by_cases h0 : n = 0
  · subst h0
    have hz0 := hfill ((Array.range 0).map fun _ => default) (by simp)
    simp [execOp, ho, Instr.buildSlice, run_underlying e1', run_sizeOf e2, e3, newRow]
    rw [hz0]
    simp
  · have hz1 := hfill ((Array.range n).map (z.val.cells[· % z.val.cells.size]!)) (by simp)
    simp [execOp, ho, Instr.buildSlice, run_underlying e1', run_sizeOf e2, e3, h24, h0, zeroValue, typeInfo, e2, e5, newRow]
    rw [hz1]
    simp
theorem step_buildDeep (h : St Y w0 m Mp F.nv F.nc M σ a w) (hE : EnvOk P E) {o : Oper} {d : Tmp} (hd : o.dst = some d) {t : TypeId} {n : Nat} {parts : Array (Nat × Operand)} (ho : o.op = .buildSlice t n parts) {k : List AV → Option R} {r : R} (hk : buildDeep E F.nv σ d t n parts.toList k = some r) : Turns P Y w0 m Mp F.nv F.nc a w o k r := by
  unfold buildDeep at hk
  split at hk
  · rename_i e he hps
    split at hk
    · rename_i hc
      simp only [Bool.and_eq_true] at hc
      obtain ⟨hok, hn⟩ := hc
      have hn := nbeq.1 hn
      subst hn
      obtain ⟨e1, z, hs, hu⟩ := deepE_sl he (okDeep_spec hok).1
      have run := run_parts (a := a) (w := w) hE hs ho (vs := []) rfl (by omega) (by rw [hps]; rfl) (fun v hv => by cases hv)
      have hg : Below w.heap.size w (w.alloc (.cells #[] (unF e1))) := (Below.refl _ _).alloc (Nat.le_refl _) _
      have hrow : (w.alloc (.cells #[] (unF e1))).ownsRow w.heap.size (unF e) 1 (.slice (some ⟨w.heap.size, 0, none⟩) 0 0) 0 [] := by
        have := World.ownsRow_lit (base := w.heap.size) (e := unF e1) (size := 1) w #[] 0 (Nat.le_refl _) (by unfold maxLen; omega) (by simp)
        rw [hu]; simpa using this
      obtain ⟨ow', hc, hm, hoc⟩ := h.core.newDeep (s := F.nv + d) (L := []) hg (h.locT d) h.fresh (.inr rfl) hok hrow (fun y hy => by cases hy) (Nat.zero_le _)
      intro next Q hn
      refine wp_val run ?_
      rw [hd]
      exact hn _ _ _ _ hk (h.go hc (Kept.of_below hg (Y := fun _ => False)) (fun _ hf => hf.elim) hm (Stays.upd (h.below d) hoc) rfl (by simp [Act.put]) (by simp [setA_length]) (tmp_put h d _ ow') h.loc)
    · cases hk
  · rename_i e x he hps
    split at hk
    · rename_i s hc hx
      simp only [Bool.and_eq_true] at hc
      obtain ⟨hok, hn⟩ := hc
      have hn := nbeq.1 hn
      subst hn
      split at hk
      · rename_i e' K ho'
        split at hk
        · rename_i hc2
          simp only [Bool.and_eq_true, Bool.not_eq_true'] at hc2
          obtain ⟨hee, hsd⟩ := hc2
          have hee := nbeq.1 hee
          have hsd : s ≠ F.nv + d := fun e'' => by rw [e'', nbeq.2 rfl] at hsd; cases hsd
          obtain ⟨o1, o2, o3⟩ := okDeep_spec hok
          obtain ⟨e1, z, hs, hu⟩ := deepE_sl he o1
          have hq := ownAny_eq ho'
          have hrow0 := own_any h.core hq
          obtain ⟨A, c, hA⟩ := hrow0.slice
          have hv : a.eval x = M.tm s := (eval_p h hx).2
          have run := run_parts (a := a) (w := w) hE hs ho (vs := [M.tm s]) rfl (by omega) (by rw [hps]; simp [hv]) (fun v hv => by rw [List.mem_singleton] at hv; subst hv; rw [hA]; rfl)
          have hg : Below w.heap.size w (w.alloc (.cells #[M.tm s] (unF e1))) := (Below.refl _ _).alloc (Nat.le_refl _) _
          have hrow : (w.alloc (.cells #[M.tm s] (unF e1))).ownsRow w.heap.size (unF e) 1 (.slice (some ⟨w.heap.size, 0, none⟩) 1 1) 1 [M.tm s] := by
            have := World.ownsRow_lit (base := w.heap.size) (e := unF e1) (size := 1) w #[M.tm s] 1 (Nat.le_refl _) (by unfold maxLen; omega) (by simp)
            rw [hu]; simpa using this
          obtain ⟨M1, hM1, hst1, hM1t⟩ : ∃ M1, St Y w0 m Mp F.nv F.nc M1 (Ev.setA σ s .u) a w ∧ M1.ow = M.ow ∧ M1.tm s = M.tm s := by
            refine ⟨M.upd s (M.tm s) M.ow, ?_, rfl, by simp [Mem.upd]⟩
            exact h.go (h.core.clear1 s) (Kept.refl (fun _ => False) w) (fun _ hf => hf.elim) (fun b q hb => .inl ⟨q, hb⟩) ⟨fun _ _ => rfl, fun k _ _ => (by show (if k = s then M.tm s else M.tm k) = _; split <;> simp_all), fun _ _ _ _ => rfl, rfl, rfl⟩ rfl rfl (setA_length _ _ _) (fun t ht => by
              show (if F.nv + t = s then M.tm s else M.tm (F.nv + t)) = _
              by_cases e : F.nv + t = s
              · rw [if_pos e, ← e]; exact h.tmp t ht
              · rw [if_neg e]; exact h.tmp t ht) h.loc
          have hsu : (Ev.setA σ s .u).getD s .u = .u := by rw [h.core.setA_getD, if_pos ⟨rfl, lt_of_getD hq (by simp)⟩]; rfl
          obtain ⟨ow', hc, hm, hoc⟩ := hM1.core.newDeep (s := s) (L := [.l K]) hg (hM1.locT d) hM1.fresh (.inl hsu) hok (by rw [hM1t]; exact hrow) (fun y hy => by
            rw [List.mem_singleton] at hy
            subst hy
            refine ⟨K, rfl, ?_⟩
            rw [hM1t, hst1, ← hee]
            exact hrow0.toDO (by rw [hee]; exact o3)) (Nat.le_refl _)
          intro next Q hn
          refine wp_val run ?_
          rw [hd]
          exact hn _ _ _ _ hk (hM1.go hc (Kept.of_below hg (Y := fun _ => False)) (fun _ hf => hf.elim) hm (Stays.upd (hM1.below d) hoc) rfl (by simp [Act.put]) (by simp [setA_length]) (tmp_put hM1 d _ ow') hM1.loc)
        · cases hk
      · cases hk
    · cases hk
  · cases hk
theorem unF_ud (e : Nat) : e % 1000000000 % 1000000 = e % 1000000 := by omega
theorem Core.joinDeep (h : Core σ M w) {s s2 d : Nat} {e : TypeId} {L N : List Sc} {v' : Value} {vs us : List Value} (hs : σ.getD s .u = .own e L) (hs2 : σ.getD s2 .u = .own e N) (hss : s ≠ s2) (hsd : s ≠ d) (hsd2 : s2 ≠ d) (hdp : dp e = true) (hd : M.loc d = none)
    (hL : DO M.ow w s (dep (ud e)) [] e (M.tm s) L) (hvl : vs.length = L.length) (hul : us.length = N.length)
    (hvs : ∀ (i : Nat) y v, L[i]? = some y → vs[i]? = some v → ∃ K, y = .l K ∧ DO M.ow w s (dep (ud e) - 1) [i] (inn e) v K) (hus : ∀ (i : Nat) y v, N[i]? = some y → us[i]? = some v → ∃ K, y = .l K ∧ DO M.ow w s2 (dep (ud e) - 1) [i] (inn e) v K) (hdep : 0 < dep (ud e))
    (hown : w'.ownsRow 0 (unF e) 1 v' (L ++ N).length (vs ++ us)) (hg : w.grownBy w' (M.tm s).ownBlock) (hb : v'.ownBlock = (M.tm s).ownBlock ∨ v'.ownBlock = some w.heap.size) (hfn : ∀ b, w.heap.size ≤ b → M.fn b) :
    ∃ ow', Core (setA ((setA σ s2 .u).set s .mv) d (.own e (L ++ N))) ((M.upd s2 (M.tm s2) M.ow).upd d v' ow') w' ∧ (∀ b q, ow' b = some q → (∃ q', M.ow b = some q') ∨ w.heap.size ≤ b) ∧ ∀ k ad, M.loc k = some ad → ow' ad.block = M.ow ad.block := by
  obtain ⟨φ, hφ⟩ : ∃ φ : List Nat → Option Key, φ = fun p => match p with
    | [] => none
    | j :: p => some (.r d ((L.length + j) :: p)) := ⟨_, rfl⟩
  have hlen2 : s2 < σ.length := lt_of_getD hs2 (by simp)
  have hnd : ∀ k ad, M.loc k = some ad → k ≠ d := fun k ad hk e' => by rw [e', hd] at hk; cases hk
  have hc0 := h.clear1 s2
  have hc1 := hc0.rekey (s := s2) (by rw [h.setA_getD, if_pos ⟨rfl, hlen2⟩]; rfl) φ
  have hs' : (setA σ s2 .u).getD s .u = .own e L := by rw [h.setA_getD, if_neg (fun hh => hss hh.1), hs]; rfl
  have hc2 := hc1.consume d hs'
  have k1 : ∀ b p, M.ow b = some (.r s p) → renOw s d (reOw s2 φ M.ow) b = some (.r d p) := fun b p hp => renOw_s (reOw_ne hp hss)
  have k2 : ∀ b j p, M.ow b = some (.r s2 (j :: p)) → renOw s d (reOw s2 φ M.ow) b = some (.r d ((L.length + j) :: p)) := fun b j p hp => by
    have h3 : reOw s2 φ M.ow b = some (.r d ((L.length + j) :: p)) := by rw [reOw_s hp, hφ]
    exact renOw_ne h3 (Ne.symm hsd)
  have k3 : ∀ b q, renOw s d (reOw s2 φ M.ow) b = some q → ∃ q', M.ow b = some q' := fun b q hq => by
    obtain ⟨q1, h1⟩ := renOw_some hq
    exact reOw_some h1
  have hkeys := hL.keys
  have hrow : ∀ b, (M.tm s).ownBlock = some b → renOw s d (reOw s2 φ M.ow) b = some (.r d []) := fun b hb' => k1 b [] (hkeys b hb')
  have hblk : ∀ b, b < w.heap.size → (renOw s d (reOw s2 φ M.ow) b ≠ some (.r d [])) → w'.heap[b]? = w.heap[b]? ∧ v'.ownBlock ≠ some b := fun b hlt hne => by
    have hnr : (M.tm s).ownBlock ≠ some b := fun e' => hne (hrow b e')
    refine ⟨hg.block b hlt fun e' => hnr e'.symm, fun e' => ?_⟩
    rcases hb with hb | hb
    · exact hnr (hb ▸ e')
    · rw [hb] at e'; injection e' with e'; omega
  have hcell : ∀ k ad, M.loc k = some ad → renOw s d (reOw s2 φ M.ow) ad.block = M.ow ad.block := fun k ad hk => by
    obtain ⟨_, _, _, k0, n0, c4, _⟩ := h.cell k ad hk
    rw [c4]
    exact renOw_c (reOw_c c4)
  refine ⟨fun b => if v'.ownBlock = some b then some (.r d []) else renOw s d (reOw s2 φ M.ow) b, Core.put hc2 d _ v' _ (fun b hlt hf => ?_) (fun b t p hlt ht hp => ?_) (fun k ad hk => ?_) (fun b q hq => ?_) (fun _ => ?_), fun b q hq => ?_, fun k ad hk => ?_⟩
  · have hf2 : renOw s d (reOw s2 φ M.ow) b = none := hf.2
    have := hblk b hlt (by rw [hf2]; simp)
    exact ⟨this.1, by rw [if_neg this.2]; exact hf2⟩
  · have hp : renOw s d (reOw s2 φ M.ow) b = some (.r t p) := hp
    have := hblk b hlt (by rw [hp]; intro e'; injection e' with e'; injection e' with e' _; exact ht e')
    exact ⟨this.1, by rw [if_neg this.2]; exact hp⟩
  · have hk : M.loc k = some ad := hk
    obtain ⟨c1, c2, c3, k0, n0, c4, c5⟩ := hc2.cell k ad hk
    have c4 : renOw s d (reOw s2 φ M.ow) ad.block = some (.c k0 n0) := c4
    have := hblk ad.block (cell_lt c1) (by rw [c4]; simp)
    rw [if_neg (hnd k ad hk)]
    exact ⟨cell_same c1 this.1, (World.frozen?_of_block this.1).trans c2, if_neg this.2⟩
  · have hq : (if v'.ownBlock = some b then some (Key.r d []) else renOw s d (reOw s2 φ M.ow) b) = some q := hq
    split at hq
    · rename_i hx
      refine ⟨(ownBlock_lt hown hx).2, ?_⟩
      rcases hb with hb | hb
      · exact (h.low b _ (hkeys b (hb ▸ hx))).2
      · rw [hb] at hx; injection hx with hx; exact hfn b (by omega)
    · obtain ⟨q', hq'⟩ := k3 b q hq
      exact ⟨Nat.lt_of_lt_of_le (h.low b q' hq').1 hg.size, (h.low b q' hq').2⟩
  · obtain ⟨n, hn⟩ : ∃ n, dep (ud e) = n + 1 := ⟨dep (ud e) - 1, by omega⟩
    rw [hn, Nat.add_sub_cancel] at hvs hus
    refine (RowO.deep hdp).2 ?_
    rw [hn]
    have inner : ∀ (b t : Nat) (p q : List Nat), b < w.heap.size → renOw s d (reOw s2 φ M.ow) b = some (.r d (p ++ q)) → p ≠ [] → w'.heap[b]? = w.heap[b]? ∧ (if v'.ownBlock = some b then some (Key.r d []) else renOw s d (reOw s2 φ M.ow) b) = some (.r d (p ++ q)) := fun b t p q hlt hq hp => by
      have := hblk b hlt (by rw [hq]; intro e'; injection e' with e'; injection e' with _ e'; exact hp (List.append_eq_nil_iff.1 e').1)
      exact ⟨this.1, by rw [if_neg this.2]; exact hq⟩
    refine ⟨⟨hdp, vs ++ us, hown, by simp [hvl, hul], fun i y v hy hv => ?_⟩, fun b hb' => ?_⟩
    · rw [List.getElem?_append] at hy hv
      rw [hvl] at hv
      split at hy
      · rename_i hlt
        rw [if_pos hlt] at hv
        obtain ⟨K, h5, h6⟩ := hvs i y v hy hv
        exact ⟨K, h5, h6.keep fun b q hb' hq => inner b 0 [i] q hb' (k1 b _ hq) (by simp)⟩
      · rename_i hlt
        rw [if_neg hlt] at hv
        obtain ⟨K, h5, h6⟩ := hus _ y v hy hv
        refine ⟨K, h5, h6.keep fun b q hb' hq => ?_⟩
        have e1 : L.length + (i - L.length) = i := by omega
        have := k2 b (i - L.length) q hq
        rw [e1] at this
        exact inner b 0 [i] q hb' this (by simp)
    · show (if v'.ownBlock = some b then some (Key.r d []) else renOw s d (reOw s2 φ M.ow) b) = _
      rw [if_pos hb']
  · have hq : (if v'.ownBlock = some b then some (Key.r d []) else renOw s d (reOw s2 φ M.ow) b) = some q := hq
    split at hq
    · rename_i hx
      rcases hb with hb | hb
      · exact .inl ⟨_, hkeys b (hb ▸ hx)⟩
      · rw [hb] at hx; injection hx with hx; exact .inr (by omega)
    · exact .inl (k3 b q hq)
  · obtain ⟨c1, _⟩ := h.cell k ad hk
    obtain ⟨_, _, _, k0, n0, c4, _⟩ := h.cell k ad hk
    have := hblk ad.block (cell_lt c1) (by rw [hcell k ad hk, c4]; simp)
    show (if v'.ownBlock = some ad.block then some (Key.r d []) else renOw s d (reOw s2 φ M.ow) ad.block) = _
    rw [if_neg this.2]
    exact hcell k ad hk
theorem DO.split {ow : Nat → Option Key} {t : Nat} {n : Nat} {p : List Nat} {e : TypeId} {x : Value} {L : List Sc} (hd : dp e = true) (h : DO ow w t n p e x L) : 0 < n ∧ ∃ vs : List Value, w.ownsRow 0 (unF e) 1 x L.length vs ∧ vs.length = L.length ∧ ∀ (i : Nat) y v, L[i]? = some y → vs[i]? = some v → ∃ K, y = .l K ∧ DO ow w t (n - 1) (p ++ [i]) (inn e) v K := by
  cases n with
  | zero => obtain ⟨⟨_, h2⟩, _⟩ := h; rw [dp_isN hd] at h2; cases h2
  | succ n => obtain ⟨⟨_, vs, h1, h2, h3⟩, _⟩ := h; exact ⟨Nat.succ_pos n, vs, h1, h2, h3⟩
theorem step_buildSlice (h : St Y w0 m Mp F.nv F.nc M σ a w) (hE : EnvOk P E) (hcl : CallOk P cl) {o : Oper} {d : Option Tmp} (hd : o.dst = d) {t : TypeId} {n : Nat} {parts : Array (Nat × Operand)} (ho : o.op = .buildSlice t n parts) {k : List AV → Option R} {r : R} (hk : stepOp E cl H F σ d (.buildSlice t n parts) k = some r) : Turns P Y w0 m Mp F.nv F.nc a w o k r := by
  simp only [stepOp] at hk
  split at hk
  · exact step_buildDeep h hE hd ho hk
  subst hd
  intro next Q hn
  obtain ⟨M1, h1⟩ := h.shareIfs (ownParts F.nv σ parts.toList)
  refine valOp_sound h1 hE hcl ho hk next Q fun v x w' hk' hb hv => ?_
  obtain ⟨M', hst⟩ := h1.put hb (NV_frz h1 (F := F) hv o.dst) o.dst
  exact hn M' _ _ _ hk' hst
theorem step_slice (h : St Y w0 m Mp F.nv F.nc M σ a w) (hE : EnvOk P E) {o : Oper} {d : Option Tmp} (hd : o.dst = d) {t : TypeId} {x : Operand} {lo hi mx : Option Operand} (ho : o.op = .slice t x lo hi mx) {k : List AV → Option R} {r : R} (hk : stepOp E cl H F σ d (.slice t x lo hi mx) k = some r) : Turns P Y w0 m Mp F.nv F.nc a w o k r := by
  cases mx with
  | some mx => simp [stepOp, valOp] at hk
  | none =>
  have fin : ∀ {y : TypeId × Sc} {A : Option Addr} {c : Nat} {L : List Sc} {l u : Int} {M1 : Mem} {σ1 : List AV} {v : AV}, look E.sl t = some y → St Y w0 m Mp F.nv F.nc M1 σ1 a w → a.eval x = .slice A L.length c → L.length ≤ c → (∀ A' c', (sliceA L l u).length ≤ c' → (A' = if c = l.toNat then A else A.map (·.add l.toNat)) → NV M1 w w σ1 v (.slice A' (sliceA L l u).length c')) →
      boundA F.nv σ 0 lo = some l → boundA F.nv σ L.length hi = some u → (0 ≤ l ∧ l ≤ u ∧ u ≤ L.length) → k (put F.nv σ1 d v) = some r → Turns P Y w0 m Mp F.nv F.nc a w o k r := by
    intro y A c L l u M1 σ1 v hs hst0 h3 h4 h5 hl hu h1 h2 next Q hn
    obtain ⟨⟨e1, ti, e2, e3, _⟩, _⟩ := hE.sl t y.1 y.2 hs
    have hr := run_sliceAt_list (P := P) (w := w) e1 e2 e3 (A := A) (bound_is h hl) (bound_is h hu) h1.1 h1.2.1 h1.2.2 h4
    have hlen := sliceA_len (L := L) (l := l) h1.2.2
    have run : (execOp a.eval o).run P w = .ok (.value (.slice (if c = l.toNat then A else A.map (·.add l.toNat)) (u.toNat - l.toNat) (c - l.toNat))) w := by
      simp only [execOp, ho, h3, Option.map_none, Sem.run_bind, hr, Result.andThen_ok, Sem.run_pure]
    have hv := h5 _ (c - l.toNat) (by rw [hlen]; omega) rfl
    rw [hlen] at hv
    obtain ⟨M', hst⟩ := hst0.put (Below.refl _ _) hv d
    exact wp_val run (by rw [hd]; exact hn M' _ _ _ h2 hst)
  have finR : ∀ {y : TypeId × Sc} {A : Option Addr} {c : Nat} {L : List Sc} {l u : Int} {M1 : Mem} {σ1 : List AV} {e : TypeId}, look E.sl t = some y → St Y w0 m Mp F.nv F.nc M1 σ1 a w → a.eval x = .slice A L.length c → L.length ≤ c → RdN w M1.fz A L → wfL (dep e) L = true →
      boundA F.nv σ 0 lo = some l → boundA F.nv σ L.length hi = some u → (0 ≤ l ∧ l ≤ u ∧ u ≤ L.length) → k (put F.nv σ1 d (.p (slv e (sliceA L l u)))) = some r → Turns P Y w0 m Mp F.nv F.nc a w o k r := by
    intro y A c L l u M1 σ1 e hs hst0 h3 h4 h5 h6 hl hu h1 h2
    exact fin (v := .p (slv e (sliceA L l u))) hs hst0 h3 h4 (fun A' c' g1 g2 => slv_of (σ := σ1) rfl g1 (g2 ▸ RdN_slice h5 h1.1 h1.2.1 h1.2.2 h4) (wfL_slice h6)) hl hu h1 h2
  simp only [stepOp] at hk
  split at hk
  · rename_i y L hs hx
    split at hk
    · rename_i l u hl hu
      rcases br_some hk with ⟨h1, h2⟩ | ⟨_, h2⟩
      · simp only [Bool.and_eq_true, decide_eq_true_eq] at h1
        obtain ⟨A, c, h3, h4, h5⟩ := eval_p h hx
        exact fin (v := .p (.sl (sliceA L l u))) hs h h3 h4 (fun A' c' g1 g2 => ⟨A', c', rfl, g1, g2 ▸ (Rd_slice h5 h1.1 h1.2.1 h1.2.2 h4).1⟩) hl hu h1 h2
      · cases h2
    · cases hk
  · rename_i y e' L hs hx
    split at hk
    · rename_i l u hl hu
      rcases br_some hk with ⟨h1, h2⟩ | ⟨_, h2⟩
      · simp only [Bool.and_eq_true, decide_eq_true_eq] at h1
        have hev := (h.eval x).1
        rw [hx] at hev
        obtain ⟨A, c, h3, h4, h5, h6⟩ := fr_read h.core hev
        exact finR hs h h3 h4 h5 h6 hl hu h1 h2
      · cases h2
    · cases hk
  · rename_i y dd L hs hx
    split at hk
    · rename_i l u hl hu
      rcases br_some hk with ⟨h1, h2⟩ | ⟨_, h2⟩
      · simp only [Bool.and_eq_true, decide_eq_true_eq] at h1
        obtain ⟨A, c, h3, h4, h5, h6⟩ := eval_p h hx
        exact fin (v := .p (.nl dd (sliceA L l u))) hs h h3 h4 (fun A' c' g1 g2 => ⟨A', c', rfl, g1, g2 ▸ RdN_slice h5 h1.1 h1.2.1 h1.2.2 h4, wfL_slice h6⟩) hl hu h1 h2
      · cases h2
    · cases hk
  · rename_i y s hs hx
    split at hk
    · rename_i e' L ho'
      have hq := ownOf_eq ho'
      obtain ⟨h1, h1b⟩ := own_at h.core hq (ownOf_dp ho')
      have hv : a.eval x = M.tm s := (eval_p h hx).2
      split at hk
      · rename_i l u hl hu
        split at hk
        · rcases br_some hk with ⟨h2, h3⟩ | ⟨_, h3⟩
          · simp only [Bool.and_eq_true, decide_eq_true_eq] at h2
            have hst := h.go (h.core.shareG (ownOf_dp ho') hq) (Kept.refl (fun _ => False) w) (fun _ hf => hf.elim) (fun b q hb => .inl ⟨q, shOw_some hb⟩) (Stays.ow (sh_cells h.core s)) (a' := a) rfl rfl (shareG_length _ _ _ _) h.tmp h.loc
            have hsl := hst.core.slot s
            rw [shareG_at σ (lt_of_getD hq (by simp))] at hsl
            obtain ⟨A, c, h4, h5, h6, h7⟩ := fr_read hst.core hsl
            exact finR hs hst (hv.trans h4) h5 h6 h7 hl hu h2 h3
          · cases h3
        · rename_i d' _
          rcases br_some hk with ⟨h2, h3⟩ | ⟨_, h3⟩
          · simp only [Bool.and_eq_true, decide_eq_true_eq] at h2
            obtain ⟨h2a, h2b⟩ := h2
            obtain ⟨⟨e1, ti, e2, e3, _⟩, _⟩ := hE.sl t y.1 y.2 hs
            have hlen : (L.take u.toNat).length = u.toNat := by simp; omega
            obtain ⟨⟨vs, h1, hHL⟩, hwf⟩ := h1
            obtain ⟨A, c, hA⟩ := ownsRow_slice h1
            have hcap : L.length ≤ c := by
              rcases h1.2 with ⟨g1, g2⟩ | ⟨g, cap, cur, g1, _, _, g4, _⟩
              · rw [hA] at g1; simp only [Value.slice.injEq] at g1; omega
              · rw [hA] at g1; simp only [Value.slice.injEq] at g1; omega
            have hr := run_sliceAt_list (P := P) (w := w) e1 e2 e3 (A := A) (lo := none) (l := 0) (.inl ⟨rfl, rfl⟩) (bound_is h hu) (Int.le_refl 0) h2a h2b hcap
            have hA0 : (if c = (0 : Int).toNat then A else A.map (·.add (0 : Int).toNat)) = A := by
              split
              · rfl
              · cases A with
                | none => rfl
                | some ad => simp [Addr.add_zero']
            have run : (execOp a.eval o).run P w = .ok (.value (.slice A u.toNat c)) w := by
              simp only [execOp, ho, hv, hA, Option.map_none, Sem.run_bind, hr, Result.andThen_ok, Sem.run_pure, hA0]
              simp
            have hvl := hHL.1
            have hzz : ∀ b, b < w.heap.size → M.fz b → w.heap[b]? = w.heap[b]? ∧ (M.fz b ∧ b < w.heap.size) := fun b hb hf => ⟨rfl, hf, hb⟩
            have hown : Row w (fun b => M.fz b ∧ b < w.heap.size) 0 e' (.slice A u.toNat c) (L.take u.toNat) := by
              have hwf' : wfL (dep e') (L.take u.toNat) = true := by
                unfold wfL at hwf ⊢
                rw [List.all_eq_true] at hwf ⊢
                exact fun y hy => hwf y (List.mem_of_mem_take hy)
              refine ⟨⟨vs.take u.toNat, ?_, (by simp [hvl]), fun j x' v' g1 g2 => ?_⟩, hwf'⟩
              rotate_left
              · rw [List.getElem?_take] at g1 g2
                split at g1
                · rename_i hj
                  rw [if_pos hj] at g2
                  exact (hHL.2 j x' v' g1 g2).keep hzz
                · cases g1
              rw [hlen]
              refine ⟨by simp; omega, ?_⟩
              rcases h1.2 with ⟨g1, g2⟩ | ⟨g, cap, cur, g1, g2, g3, g4, g5, g6, g7⟩
              · rw [hA] at g1
                simp only [Value.slice.injEq] at g1
                left
                obtain ⟨rfl, _, rfl⟩ := g1
                have : u.toNat = 0 := by omega
                exact ⟨by rw [this], this⟩
              · rw [hA] at g1
                simp only [Value.slice.injEq] at g1
                obtain ⟨rfl, _, rfl⟩ := g1
                refine .inr ⟨g, c, cur, rfl, g2, g3, by omega, g5, g6, ?_⟩
                rw [← g7, List.take_take]
                congr 1
                omega
            have hob : (Value.slice A u.toNat c).ownBlock = (M.tm s).ownBlock := by rw [hA]; cases A <;> rfl
            obtain ⟨ow', hc, hm, hoc⟩ := h.core.append (ownOf_dp ho') hq (h.locT d') hown (⟨rfl, rfl, rfl, Nat.le_refl _, fun _ _ _ => rfl⟩ : w.grownBy w (M.tm s).ownBlock) (.inl hob) h.fresh
            intro next Q hn
            refine wp_val run ?_
            rw [hd]
            exact hn _ _ _ _ h3 (h.go hc (Kept.refl (fun _ => False) w) (fun _ hf => hf.elim) hm (Stays.upd (h.below d') hoc) rfl (by simp [Act.put]) (by simp [setA_length]) (tmp_put h d' _ ow') h.loc)
          · cases h3
        · cases hk
      · cases hk
    · cases hk
  · rename_i s hs hx
    split at hk
    · rename_i l u ht hl hu
      rcases br_some hk with ⟨h1, h2⟩ | ⟨_, h2⟩
      · simp only [Bool.and_eq_true, decide_eq_true_eq] at h1
        have hr := run_bounds (P := P) (w := w) (isSl := false) (bound_is h hl) (bound_is h hu) h1.1 h1.2.1 h1.2.2 (Nat.le_refl _)
        have run : (execOp a.eval o).run P w = .ok (.value (.string (s.extract l.toNat u.toNat))) w := by
          simp [execOp, ho, eval_sc h hx, Sc.val, Instr.sliceAt, run_underlying (hE.st t ht), Instr.slice, hr]
        intro next Q hn
        obtain ⟨M', hst⟩ := h.put (Below.refl _ _) (v := .p (.sc (.s (s.extract l.toNat u.toNat)))) (x := .string (s.extract l.toNat u.toNat)) rfl d
        exact wp_val run (by rw [hd]; exact hn M' _ _ _ h2 hst)
      · cases h2
    · cases hk
  · cases hk
theorem run_append_nothing_at {B : Nat} {t ty e : TypeId} {ti : TypeInfo} (e1 : P.underlying t = some (.slice e)) (e2 : P.info? e = some ti) {v : Value} {n : Nat} {xs : List Value} (hown : w.ownsRow B e 1 v n xs) (c : Nat) :
    (Builtin.append_ #[t, t] ty #[v, .slice none 0 c]).run P w = .ok v w := by
  rcases hown.2 with ⟨rfl, rfl⟩ | ⟨g, cap, cur, rfl, _, _, hnc, _⟩
  · simp [Builtin.append_, run_underlying e1, run_sizeOf e2, Builtin.lenOf, Builtin.firstCells]
  · simp [Builtin.append_, run_underlying e1, run_sizeOf e2, Builtin.lenOf, Builtin.firstCells, hnc, storeCells]
theorem list_nlz (h : St Y w0 m Mp nv nc M σ a w) {x : Operand} {d : Nat} {L : List Sc} (hx : listN σ (evalO nv σ x) = some (d, L)) : ∃ A c, a.eval x = .slice A L.length c ∧ L.length ≤ c ∧ (L = [] ∨ ∃ ad, A = some ad ∧ ∃ vs : List Value, vs.length = L.length ∧ (∀ (j : Nat) v, vs[j]? = some v → w.cell? (ad.add j) = some v) ∧ HL w M.fz L vs) ∧ wfL d L = true := by
  have mk : ∀ {L : List Sc} {A : Option Addr}, RdN w M.fz A L → (L = [] ∨ ∃ ad, A = some ad ∧ ∃ vs : List Value, vs.length = L.length ∧ (∀ (j : Nat) v, vs[j]? = some v → w.cell? (ad.add j) = some v) ∧ HL w M.fz L vs) := by
    intro L A h1
    rcases h1 with h1 | ⟨ad, h1, _, h3⟩
    · exact .inl h1
    · refine .inr ⟨ad, h1, (List.range L.length).map fun j => (w.cell? (ad.add j)).getD undef, by simp, fun j v hj => ?_, by simp, fun j x v hj hv => ?_⟩
      · simp only [List.getElem?_map, Option.map_eq_some_iff] at hj
        obtain ⟨q, hq, rfl⟩ := hj
        obtain ⟨hq1, hq2⟩ := List.getElem?_eq_some_iff.1 hq
        simp only [List.getElem_range] at hq2
        subst hq2
        simp only [List.length_range] at hq1
        obtain ⟨v, h4, _⟩ := h3 j _ (List.getElem?_eq_getElem hq1)
        rw [h4]; rfl
      · obtain ⟨u, h4, h5⟩ := h3 j x hj
        simp only [List.getElem?_map, Option.map_eq_some_iff] at hv
        obtain ⟨q, hq, rfl⟩ := hv
        obtain ⟨hq1, hq2⟩ := List.getElem?_eq_some_iff.1 hq
        simp only [List.getElem_range] at hq2
        subst hq2
        rw [h4]
        exact h5
  have hev := (h.eval x).1
  cases hv : evalO nv σ x with
  | p y =>
    rw [hv] at hx hev
    cases y with
    | nl d' L' =>
      simp only [listN, Option.some.injEq, Prod.mk.injEq] at hx
      obtain ⟨rfl, rfl⟩ := hx
      obtain ⟨A, c, h1, h2, h3, h4⟩ := hev
      exact ⟨A, c, h1, h2, mk h3, h4⟩
    | al s =>
      obtain ⟨_, h2⟩ := hev
      simp only [listN] at hx
      cases ho : ownOf σ s with
      | none => rw [ho] at hx; cases hx
      | some eL =>
        obtain ⟨e, L'⟩ := eL
        rw [ho] at hx
        obtain ⟨he, rfl, rfl⟩ := cellsN_eq hx
        obtain ⟨⟨vs, h3, h4⟩, h5⟩ := (own_at h.core (ownOf_eq ho) (ownOf_dp ho)).1
        have hcells := fun g => h3.cells (g := g)
        rcases h3.2 with ⟨q1, q2⟩ | ⟨g, cap, cur, q1, q2, q3, q4, _⟩
        · have : L' = [] := List.eq_nil_of_length_eq_zero q2
          subst this
          exact ⟨none, 0, h2.trans q1, Nat.le_refl _, .inl rfl, h5⟩
        · refine ⟨_, cap, h2.trans q1, q4, .inr ⟨⟨g, 0, none⟩, rfl, vs, h4.1, fun j v hj => ?_, h4⟩, h5⟩
          exact hcells g (by rw [q1]; rfl) j v hj
    | _ => simp [listN] at hx
  | fr e L' =>
    rw [hv] at hx hev
    obtain ⟨he, rfl, rfl⟩ := cellsN_eq hx
    obtain ⟨A, c, h3, h4, h5, h6⟩ := fr_read h.core hev
    exact ⟨A, c, h3, h4, mk h5, h6⟩
  | _ => rw [hv] at hx; simp [listN] at hx
theorem HL_app {Z : Nat → Prop} {L N : List Sc} {vs us : List Value} (h1 : HL w Z L vs) (h2 : HL w Z N us) : HL w Z (L ++ N) (vs ++ us) := by
  refine ⟨by simp [h1.1, h2.1], fun j x v hj hv => ?_⟩
  rw [List.getElem?_append] at hj hv
  rw [h1.1] at hv
  split at hj
  · rename_i hlt
    rw [if_pos hlt] at hv
    exact h1.2 j x v hj hv
  · rename_i hlt
    rw [if_neg hlt] at hv
    exact h2.2 _ x v hj hv
theorem HL_one {Z : Nat → Prop} {L : List Sc} {vs : List Value} (h : HL w Z L vs) : ∀ v ∈ vs, v.oneCell' = true := by
  intro v hv
  obtain ⟨j, hj⟩ := List.getElem?_of_mem hv
  have hlt : j < L.length := by rw [← h.1]; exact (List.getElem?_eq_some_iff.1 hj).1
  have := h.2 j _ v (List.getElem?_eq_getElem hlt) hj
  cases hq : L[j] with
  | l K => rw [hq] at this; obtain ⟨A, c, rfl, _⟩ := HF_l.1 this; rfl
  | b y => rw [hq] at this; have := (HF_sc rfl).1 this; subst this; rfl
  | n k y => rw [hq] at this; have := (HF_sc rfl).1 this; subst this; rfl
  | s y => rw [hq] at this; have := (HF_sc rfl).1 this; subst this; rfl
theorem step_appDeep (h : St Y w0 m Mp F.nv F.nc M σ a w) (hE : EnvOk P E) {o : Oper} {d : Tmp} (hd : o.dst = some d) {x y : Operand} {t : TypeId} (ho : o.op = .call ⟨.builtin .append, #[x, y], #[t, t]⟩) {e0 : TypeId} {z : Sc} {s : Nat} (hs : look E.sl t = some (e0, z)) (hx : evalO F.nv σ x = .p (.al s)) {k : List AV → Option R} {r : R} (hk : appDeep F.nv σ d e0 s (evalO F.nv σ y) k = some r) : Turns P Y w0 m Mp F.nv F.nc a w o k r := by
  unfold appDeep at hk
  split at hk
  · rename_i e L s2 ho1 hy
    split at hk
    · rename_i e2 N ho2
      split at hk
      · rename_i hc
        simp only [Bool.and_eq_true, Bool.not_eq_true'] at hc
        obtain ⟨c1, c2, c3, c4, c5⟩ := hc
        have c1 := nbeq.1 c1
        have c2 := nbeq.1 c2
        subst c2
        have hne : ∀ {p q : Nat}, Nat.beq p q = false → p ≠ q := fun hh e' => by rw [e', nbeq.2 rfl] at hh; cases hh
        have c3 := hne c3
        have c4 := hne c4
        have c5 := hne c5
        rcases br_some hk with ⟨h1, h2⟩ | ⟨_, h2⟩
        · have h1 : L.length + N.length ≤ lim := by simpa using h1
          obtain ⟨⟨e1, ti, e2, e3, e4, e5⟩, _⟩ := hE.sl t e0 z hs
          have hu : unF e = unF e0 := by rw [← c1]; exact (unF_ud e).symm
          rw [← hu] at e1 e2
          have hxa : a.eval x = M.tm s := (eval_p h hx).2
          have hya : a.eval y = M.tm s2 := (eval_p h hy).2
          have hdp := (ownD_both ho1).2
          have hL := own_deep h.core ho1
          have hN := own_deep h.core ho2
          obtain ⟨hpos, vs, g1, g2, g3⟩ := hL.split hdp
          obtain ⟨_, us, q1, q2, q3⟩ := hN.split hdp
          have hlim : L.length + N.length ≤ 1099511627776 := by unfold lim at h1; exact h1
          have hb1 : (L.length + N.length) * ti.bytes ≤ 140737488355328 := by
            have : (L.length + N.length) * ti.bytes ≤ 1099511627776 * 32 := Nat.mul_le_mul hlim e4
            omega
          have hzc : z.val.cells.size = 1 := by cases z <;> rfl
          have hone : ∀ u ∈ us, u.oneCell' = true := fun u hu => by
            obtain ⟨j, hj⟩ := List.getElem?_of_mem hu
            have hlt : j < N.length := by rw [← q2]; exact (List.getElem?_eq_some_iff.1 hj).1
            obtain ⟨K, _, hK⟩ := q3 j _ u (List.getElem?_eq_getElem hlt) hj
            obtain ⟨ws, hw, _⟩ := hK.owns
            obtain ⟨A, c, rfl⟩ := ownsRow_slice hw
            rfl
          have fin : ∀ (v' : Value) (w' : World), (Builtin.append_ #[t, t] o.type #[a.eval x, a.eval y]).run P w = .ok v' w' → w'.ownsRow 0 (unF e) 1 v' (L ++ N).length (vs ++ us) → w.grownBy w' (M.tm s).ownBlock →
              (v'.ownBlock = (M.tm s).ownBlock ∨ v'.ownBlock = some w.heap.size) → Turns P Y w0 m Mp F.nv F.nc a w o k r := by
            intro v' w' hr ho1' hg hb next Q hn
            have run : (execOp a.eval o).run P w = .ok (.value v') w' := by
              simp [execOp, ho, resolve, invoke, builtin, hr]
            obtain ⟨ow', hc, hm, hoc⟩ := h.core.joinDeep (d := F.nv + d) (ownD_both ho1).1 (ownD_both ho2).1 c3 c4 c5 hdp (h.locT d) hL g2 q2 g3 q3 hpos ho1' hg hb h.fresh
            refine wp_val run ?_
            rw [hd]
            have htm : ∀ t', ((M.upd s2 (M.tm s2) M.ow).upd (F.nv + d) v' ow').tm t' = (M.upd (F.nv + d) v' ow').tm t' := fun t' => by
              show (if t' = F.nv + d then v' else if t' = s2 then M.tm s2 else M.tm t') = if t' = F.nv + d then v' else M.tm t'
              by_cases e' : t' = s2
              · rw [if_pos e', e']
              · rw [if_neg e']
            exact hn _ _ _ _ h2 (h.go hc (Kept.of_grown hg) (fun b hb' => ⟨_, hL.keys b hb'⟩) hm ⟨fun _ _ => rfl, fun k hk hnk => (htm k).trans ((Stays.upd (x := v') (h.below d) hoc).tm k hk hnk), fun k ad _ hl => hoc k ad hl, rfl, rfl⟩ rfl (by simp [Act.put]) (by simp [setA_length]) (fun t' ht => (htm _).trans (tmp_put h d v' ow' t' ht)) h.loc)
          rcases q1.2 with ⟨n1, n2⟩ | ⟨g, cap, cur, n1, _⟩
          · have hN0 : N = [] := List.eq_nil_of_length_eq_zero n2
            subst hN0
            have hus0 : us = [] := List.eq_nil_of_length_eq_zero q2
            subst hus0
            refine fin (M.tm s) w ?_ (by simpa using g1) ⟨rfl, rfl, rfl, Nat.le_refl _, fun _ _ _ => rfl⟩ (.inl rfl)
            rw [hxa, hya, n1]
            exact run_append_nothing_at e1 e2 g1 0
          · obtain ⟨v', w', hr, ho1', hg, _, hb⟩ := run_append_own_at (P := P) w 0 t o.type (unF e) ti z.val 1 ti.bytes e1 e2 e5 e3 rfl hzc (by omega) (M.tm s) L.length vs g1 ⟨g, 0, none⟩ N.length cap us (by rw [q2]; simp) (fun j u hj => q1.cells (g := g) (by rw [n1]; rfl) j u hj) hone (by unfold maxLen; omega) hb1 (Nat.zero_le _)
            refine fin v' w' ?_ (by simpa using ho1') hg hb
            rw [hxa, hya, n1]
            exact hr
        · cases h2
      · cases hk
    · cases hk
  · cases hk
theorem step_append (h : St Y w0 m Mp F.nv F.nc M σ a w) (hE : EnvOk P E) {o : Oper} {d : Option Tmp} (hd : o.dst = d) {c : Call} (ho : o.op = .call c) (hc : c.callee = .builtin .append) {k : List AV → Option R} {r : R} (hk : stepOp E cl H F σ d (.call c) k = some r) : Turns P Y w0 m Mp F.nv F.nc a w o k r := by
  obtain ⟨cal, args, tys⟩ := c
  simp only at hc
  subst hc
  simp only [stepOp] at hk
  split at hk
  · rename_i x y t t' d' hargs htys
    have ha' : args = #[x, y] := Array.toList_inj.1 hargs
    have ht' : tys = #[t, t'] := Array.toList_inj.1 htys
    subst ha'
    subst ht'
    split at hk
    · rename_i e0 z s hs htt hx
      have htt' : t = t' := Nat.eq_of_beq_eq_true htt
      subst htt'
      have fin0 : ∀ (e : TypeId) (L N : List Sc), ownOf σ s = some (e, L) → e = e0 → L.length + N.length ≤ lim → (∃ A c, a.eval y = .slice A N.length c ∧ N.length ≤ c ∧ (N = [] ∨ ∃ ad, A = some ad ∧ ∃ vs : List Value, vs.length = N.length ∧ (∀ (j : Nat) v, vs[j]? = some v → w.cell? (ad.add j) = some v) ∧ HL w M.fz N vs)) → wfL (dep e) N = true → k (setA (σ.set s .mv) (F.nv + d') (.own e (L ++ N))) = some r → Turns P Y w0 m Mp F.nv F.nc a w o k r := by
        intro e L N ho' hee' h1 hN hwN h2
        have hq := ownOf_eq ho'
        subst hee'
        obtain ⟨⟨e1, ti, e2, e3, e4, e5⟩, _⟩ := hE.sl t e z hs
        have h4 : a.eval x = M.tm s := (eval_p h hx).2
        obtain ⟨⟨⟨vs, h5, h5b⟩, h5c⟩, h6⟩ := own_at h.core hq (ownOf_dp ho')
        obtain ⟨A, cp, h7, h8, h9⟩ := hN
        have hlim : L.length + N.length ≤ 1099511627776 := by unfold lim at h1; exact h1
        have hb1 : (L.length + N.length) * ti.bytes ≤ 140737488355328 := by
          have : (L.length + N.length) * ti.bytes ≤ 1099511627776 * 32 := Nat.mul_le_mul hlim e4
          omega
        have hzc : z.val.cells.size = 1 := by cases z <;> rfl
        have hzz : ∀ w', w.grownBy w' (M.tm s).ownBlock → ∀ b, b < w.heap.size → M.fz b → w'.heap[b]? = w.heap[b]? ∧ (M.fz b ∧ b < w.heap.size) := fun w' hg b hb hf => ⟨hg.block b hb fun e' => h.core.fz_not (h6 b e'.symm) hf, hf, hb⟩
        have hwA : wfL (dep e) (L ++ N) = true := by
          unfold wfL at h5c hwN ⊢
          rw [List.all_append, h5c, hwN]
          rfl
        have fin : ∀ (v' : Value) (w' : World) (us : List Value), (Builtin.append_ #[t, t] o.type #[a.eval x, a.eval y]).run P w = .ok v' w' → w'.ownsRow 0 (unF e) 1 v' (L ++ N).length (vs ++ us) → HL w M.fz N us → w.grownBy w' (M.tm s).ownBlock →
            (v'.ownBlock = (M.tm s).ownBlock ∨ v'.ownBlock = some w.heap.size) → Turns P Y w0 m Mp F.nv F.nc a w o k r := by
          intro v' w' us hr ho1 hus hg hb next Q hn
          have run : (execOp a.eval o).run P w = .ok (.value v') w' := by
            simp [execOp, ho, resolve, invoke, builtin, hr]
          have hrow : Row w' (fun b => M.fz b ∧ b < w.heap.size) 0 e v' (L ++ N) := ⟨⟨vs ++ us, ho1, (HL_app h5b hus).keep (hzz w' hg)⟩, hwA⟩
          obtain ⟨ow', hc, hm, hoc⟩ := h.core.append (ownOf_dp ho') hq (h.locT d') hrow hg hb h.fresh
          refine wp_val run ?_
          rw [hd]
          exact hn _ _ _ _ h2 (h.go hc (Kept.of_grown hg) (fun b hb' => ⟨_, h6 b hb'⟩) hm (Stays.upd (h.below d') hoc) rfl (by simp [Act.put]) (by simp [setA_length]) (tmp_put h d' _ ow') h.loc)
        cases A with
        | none =>
          have hM0 : N = [] := by
            rcases h9 with h9 | ⟨ad, h9, _⟩
            · exact h9
            · cases h9
          subst hM0
          refine fin (M.tm s) w [] ?_ (by simpa using h5) ⟨rfl, fun j x v h => by simp at h⟩ ⟨rfl, rfl, rfl, Nat.le_refl _, fun _ _ _ => rfl⟩ (.inl rfl)
          rw [h4, h7]
          exact run_append_nothing_at e1 e2 h5 cp
        | some ad =>
          obtain ⟨us, hul, hcells, hus⟩ : ∃ us : List Value, us.length = N.length ∧ (∀ (j : Nat) v, us[j]? = some v → w.cell? (ad.add j) = some v) ∧ HL w M.fz N us := by
            rcases h9 with rfl | ⟨ad', h9, us, g1, g2, g3⟩
            · exact ⟨[], rfl, fun j v h => by simp at h, rfl, fun j x v h => by simp at h⟩
            · injection h9 with h9
              subst h9
              exact ⟨us, g1, g2, g3⟩
          obtain ⟨v', w', hr, ho1, hg, _, hb⟩ := run_append_own_at (P := P) w 0 t o.type (unF e) ti z.val 1 ti.bytes e1 e2 e5 e3 rfl hzc (by omega) (M.tm s) L.length vs h5 ad N.length cp us (by rw [hul]; simp) hcells (HL_one hus) (by unfold maxLen; omega) hb1 (Nat.zero_le _)
          refine fin v' w' us ?_ (by simpa using ho1) hus hg hb
          rw [h4, h7]
          exact hr
      split at hk
      · rename_i e L N ho' hM
        split at hk
        · rename_i hee he
          have hee' : e = e0 := Nat.eq_of_beq_eq_true hee
          rcases br_some hk with ⟨h1, h2⟩ | ⟨_, h2⟩
          · obtain ⟨A, c, g1, g2, g3⟩ := list_of h hM
            have hw0 := g3.wide
            refine fin0 e L N ho' hee' (by simpa using h1) ⟨A, c, g1, g2, ?_⟩ (by rw [(dep_zero he).1]; exact hw0.2) h2
            rcases g3 with rfl | ⟨ad, rfl, _, g4⟩
            · exact .inl rfl
            · refine .inr ⟨ad, rfl, N.map Sc.val, by simp, fun j v hj => ?_, HL_sc (wfL_zero.1 hw0.2)⟩
              simp only [List.getElem?_map, Option.map_eq_some_iff] at hj
              obtain ⟨q, hq, rfl⟩ := hj
              exact (g4 j q hq).2
          · cases h2
        · cases hk
      · rename_i e L ho' hM
        split at hk
        · rename_i dd N hee he hN
          split at hk
          · rename_i hdd
            have hee' : e = e0 := Nat.eq_of_beq_eq_true hee
            rcases br_some hk with ⟨h1, h2⟩ | ⟨_, h2⟩
            · obtain ⟨A, c, g1, g2, g3, g4⟩ := list_nlz h hN
              exact fin0 e L N ho' hee' (by simpa using h1) ⟨A, c, g1, g2, g3⟩ (by rw [← nbeq.1 hdd]; exact g4) h2
            · cases h2
          · cases hk
        · cases hk
      · rename_i hno
        exact step_appDeep h hE hd ho hs hx hk
    · cases hk
  · cases hk
end
end Go.Proofs.YtlnhommmmajllaaGreat.Ev
