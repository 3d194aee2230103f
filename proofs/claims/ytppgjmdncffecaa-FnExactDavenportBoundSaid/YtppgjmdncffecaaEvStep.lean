/-
  EvStep: one operation of a region in its own order.
-/
import Derived.Test.YtppgjmdncffecaaEvVal2
import Derived.Laws.MakeOwn
import Derived.Laws.OwnMore
namespace Go.Proofs.Ytppgjmdncffecaa.Ev
open Go Go.RowKit

section
variable {P : Program} {E : Env} {cl : Calling} {B : Nat} {w0 w : World} {own : Own} {σ : List AV} {a : Act} {R : Type}

/-- What the rule for an operation that turns the slots wants. -/
def Turns (P : Program) (B : Nat) (w0 : World) (a : Act) (w : World) (o : Oper) (k : List AV → Option R) (r : R) : Prop :=
  ∀ (next : Act → World → Prop) (Q : Exit → Act → World → Prop), (∀ own' σ' a' w', k σ' = some r → St B w0 own' σ' a' w' → next a' w') → o.wp P a w next Q

theorem turns_of_gives (h : St B w0 own σ a w) {o : Oper} {d : Option Tmp} (hd : o.dst = d) {k : List AV → Option R} {r : R} (hg : Gives P B own σ a w o (fun v => k (put σ d v)) r) : Turns P B w0 a w o k r := by
  intro next Q hn
  refine hg next Q fun v x w' hk hb hv => ?_
  obtain ⟨own', hst⟩ := h.put hb hv d
  rw [hd]
  exact hn own' _ _ _ hk hst

theorem step_assign (h : St B w0 own σ a w) {o : Oper} {d : Option Tmp} (hd : o.dst = d) {x : Operand} (ho : o.op = .assign x) {k : List AV → Option R} {r : R} (hk : stepOp E cl σ d (.assign x) k = some r) : Turns P B w0 a w o k r := by
  have run : (execOp a.eval o).run P w = .ok (.value (a.eval x)) w := by simp [execOp, ho]
  have plain : ∀ {v : AV} {d' : Option Tmp}, o.dst = d' → GV B own σ a.tmps w v (a.eval x) → k (put σ d' v) = some r → Turns P B w0 a w o k r := by
    intro v d' hd' hv hk' next Q hn
    obtain ⟨own', hst⟩ := h.put (Below.refl _ _) (NV_of_GV hv) d'
    exact wp_val run (by rw [hd']; exact hn own' _ _ _ hk' hst)
  have moved : ∀ {s d' : Nat} {e : TypeId} {L : List Sc}, o.dst = some d' → σ.getD s .u = .own e L → s ≠ d' → d' < σ.length → a.tmps.getD s undef = a.eval x → k (moveOwn σ s d' e L) = some r → Turns P B w0 a w o k r := by
    intro s d' e L hd' hs hsd hld hx hk' next Q hn
    obtain ⟨own', hst⟩ := h.move hs (getD_lt hs) hsd hld
    exact wp_val run (by rw [hd', ← hx]; exact hn own' _ _ _ hk' hst)
  simp only [stepOp] at hk
  split at hk
  · rename_i t d'
    have ht : a.eval (.tmp t) = a.tmps.getD t undef := rfl
    split at hk
    · rename_i e L hs
      split at hk
      · rename_i h1 h2
        exact moved hd hs (fun e => by subst e; simp at h1) (by simpa [Nat.blt_eq] using h2) rfl hk
      · cases hk
    · rename_i s hs
      split at hk
      · rename_i e L h1 h2 ho'
        have hev := h.eval (.tmp t)
        have : evalO σ (.tmp t) = .al s := by simp only [evalO, hs]
        rw [this] at hev
        obtain ⟨e', L', _, h4⟩ := hev
        exact moved hd (ownOf_eq ho') (fun e => by subst e; simp at h1) (by simpa [Nat.blt_eq] using h2) h4 hk
      · cases hk
    · rename_i hn1 hn2
      have hev := h.eval (.tmp t)
      have : evalO σ (.tmp t) = σ.getD t .u := by
        simp only [evalO]
      rw [this] at hev
      exact plain (d' := some d') hd hev hk
  · exact plain hd (h.eval x) hk

theorem run_storeVar_one {t : TypeId} {i : TypeInfo} (hi : P.info? t = some i) (hs : i.size = 1) {ad : Addr} (y : Sc) (hc : (w.cell? ad).isSome = true) (hf : w.frozen? ad = false) : (storeVar t ad y.val).run P w = .ok () (w.setCell ad y.val) := by
  have hst : (store ad y.val).run P w = .ok () (w.setCell ad y.val) := by
    have h1 : y.val.oneCell' = true := by cases y <;> rfl
    rw [run_store P w ad y.val .plain h1]
    cases hcc : w.cell? ad with
    | none => rw [hcc] at hc; cases hc
    | some v => simp [hf]
  have hcells : y.val.cells = #[y.val] := by cases y <;> rfl
  simp [storeVar, run_sizeOf hi, hs, hcells, storeCells, Addr.add_zero', hst]

theorem step_store (h : St B w0 own σ a w) (hE : EnvOk P E) {o : Oper} {d : Option Tmp} (hd : o.dst = d) {t : TypeId} {p x : Operand} (ho : o.op = .store t p x) {k : List AV → Option R} {r : R} (hk : stepOp E cl σ d (.store t p x) k = some r) : Turns P B w0 a w o k r := by
  simp only [stepOp] at hk
  split at hk
  · rename_i s i y ht hp hx
    split at hk
    · rename_i e L ho'
      have hs := ownOf_eq ho'
      have hev := h.eval p
      rw [hp] at hev
      obtain ⟨e', L', g, cap, h1, h2, h3, h4⟩ := hev
      rw [hs] at h1
      injection h1 with h1 h1'
      subst h1 h1'
      obtain ⟨_, ti, e2, e3⟩ := hE.sc t ht
      obtain ⟨h5, _⟩ := own_at h hs
      rw [h2] at h5
      have hcell := h5.cells (g := g) rfl i (L.getD i dflt).val (by simp [List.getD, h3])
      rw [Addr.add_lit, Nat.zero_add] at hcell
      have hfr := h5.frozenAt i
      have run : (execOp a.eval o).run P w = .ok .skip (w.setCell ⟨g, i, none⟩ y.val) := by
        simp only [execOp, ho, h4, eval_sc h hx, Instr.storeAt, Instr.sureAddr, Sem.run_bind, Sem.run_pure, Result.andThen_ok, run_storeVar_one e2 e3 y (by rw [hcell]; rfl) hfr]
      intro next Q hn
      unfold Oper.wp
      rw [run]
      have hst := h.store (i := i) y hs (getD_lt hs) h2
      obtain ⟨own', hst'⟩ := hst.put (Below.refl _ _) (v := .und) (x := undef) rfl d
      show next (a.put o.dst undef) _
      rw [hd]
      exact hn own' _ _ _ hk hst'
    · cases hk
  · cases hk

theorem parts_eval (h : St B w0 own σ a w) : ∀ (parts : List (Nat × Operand)) (j : Nat) (L : List Sc), partsOf σ j parts = some L →
    parts.map (fun p => (p.1, a.eval p.2)) = (L.zipIdx j).map fun p => (p.2, p.1.val)
  | [], j, L, hp => by simp only [partsOf, Option.some.injEq] at hp; subst hp; rfl
  | (i, x) :: r, j, L, hp => by
    simp only [partsOf] at hp
    split at hp
    · rename_i v hi hx
      simp only [Option.map_eq_some_iff] at hp
      obtain ⟨L', hp, rfl⟩ := hp
      have hij : i = j := Nat.eq_of_beq_eq_true hi
      subst hij
      have := parts_eval h r (i + 1) L' hp
      simp only [List.map_cons, List.zipIdx_cons, this, eval_sc h hx]
    · cases hp

theorem parts_length : ∀ (parts : List (Nat × Operand)) (j : Nat) (L : List Sc), partsOf σ j parts = some L → L.length = parts.length
  | [], j, L, hp => by simp only [partsOf, Option.some.injEq] at hp; subst hp; rfl
  | (i, x) :: r, j, L, hp => by
    simp only [partsOf] at hp
    split at hp
    · simp only [Option.map_eq_some_iff] at hp
      obtain ⟨L', hp, rfl⟩ := hp
      simp [parts_length r (j + 1) L' hp]
    · cases hp

/-- Filling a row of one-cell places in order. -/
theorem fill_row : ∀ (L : List Sc) (pre : List Value) (rest : List Value), rest.length = L.length →
    Instr.fill (fun i => some (i * 1, 1)) (pre ++ rest).toArray ((L.zipIdx pre.length).map fun p => (p.2, p.1.val)) = some (pre ++ L.map Sc.val).toArray
  | [], pre, rest, hr => by
    have : rest = [] := List.eq_nil_of_length_eq_zero hr
    subst this
    simp [Instr.fill]
  | y :: L, pre, rest, hr => by
    cases rest with
    | nil => simp at hr
    | cons v rest =>
      have hcells : y.val.cells = #[y.val] := by cases y <;> rfl
      simp only [List.zipIdx_cons, List.map_cons, Instr.fill, hcells]
      rw [if_neg (by simp)]
      have hset : ((#[y.val] : Array Value).zipIdx.foldl (fun cs (x : Value × Nat) => cs.setIfInBounds (pre.length * 1 + x.2) x.1) (pre ++ v :: rest).toArray) = ((pre ++ [y.val]) ++ rest).toArray := by
        simp [List.set_append_right]
      have ih := fill_row L (pre ++ [y.val]) rest (by simpa using hr)
      simp only [List.length_append, List.length_cons, List.length_nil, Nat.zero_add] at ih
      rw [hset, ih]
      simp


theorem step_buildSlice (h : St B w0 own σ a w) (hE : EnvOk P E) {o : Oper} {d : Option Tmp} (hd : o.dst = d) {t : TypeId} {n : Nat} {parts : Array (Nat × Operand)} (ho : o.op = .buildSlice t n parts) {k : List AV → Option R} {r : R} (hk : stepOp E cl σ d (.buildSlice t n parts) k = some r) : Turns P B w0 a w o k r := by
  simp only [stepOp] at hk
  split at hk
  · rename_i e z L hs hn hp
    obtain ⟨e1, ti, e2, e3, e4, e5⟩ := hE.sl t e z hs
    simp only [Bool.and_eq_true] at hn
    have hnn : parts.toList.length = n := Nat.eq_of_beq_eq_true hn.1
    have hn1000 : n < 1000 := by simpa [Nat.blt_eq] using hn.2
    have hlen := parts_length _ _ _ hp
    rw [hnn] at hlen
    have hpe := parts_eval h _ _ _ hp
    have hzc : z.val.cells = #[z.val] := by cases z <;> rfl
    have hfill : ∀ (row : Array Value), row.size = n → Instr.fill (fun i => some (i, 1)) row (List.map (fun p => (p.1, a.eval p.2)) parts.toList) = some (L.map Sc.val).toArray := by
      intro row hrow
      have := fill_row L [] row.toList (by rw [Array.length_toList, hrow, hlen])
      simp only [List.nil_append, List.length_nil, Array.toArray_toList, Nat.mul_one] at this
      rw [hpe]
      exact this
    have run : (execOp a.eval o).run P w = .ok (.value (.slice (some ⟨w.heap.size, 0, none⟩) n n)) (w.alloc (.cells (L.map Sc.val).toArray e)) := by
      have h24 : ¬ (16777216 < n) := by omega
      by_cases h0 : n = 0
      · subst h0
        have hz0 := hfill ((Array.range 0).map fun _ => default) (by simp)
        simp [execOp, ho, Instr.buildSlice, run_underlying e1, run_sizeOf e2, e3, newRow]
        rw [hz0]
        simp
      · have hz1 := hfill ((Array.range n).map (z.val.cells[· % z.val.cells.size]!)) (by simp)
        simp [execOp, ho, Instr.buildSlice, run_underlying e1, run_sizeOf e2, e3, h24, h0, zeroValue, typeInfo, e2, e5, newRow]
        rw [hz1]
        simp
    intro next Q hn'
    obtain ⟨own', hst⟩ := h.put ((Below.refl _ _).alloc (Nat.le_refl _) _) (v := .own e L) (x := .slice (some ⟨w.heap.size, 0, none⟩) n n) (by
      have := World.ownsRow_lit (base := w.heap.size) (e := e) (size := 1) w (L.map Sc.val).toArray n (Nat.le_refl _) (by unfold maxLen; omega) (by simp [hlen])
      rw [← hlen] at this ⊢
      simpa [NV] using this) d
    exact wp_val run (by rw [hd]; exact hn' own' _ _ _ hk hst)
  · cases hk

theorem step_makeSlice (h : St B w0 own σ a w) (hE : EnvOk P E) {o : Oper} {d : Option Tmp} (hd : o.dst = d) {t : TypeId} {x y : Operand} (ho : o.op = .makeSlice t x y) {k : List AV → Option R} {r : R} (hk : stepOp E cl σ d (.makeSlice t x y) k = some r) : Turns P B w0 a w o k r := by
  simp only [stepOp] at hk
  split at hk
  · rename_i e z kx m ky c hs hx hy
    obtain ⟨e1, ti, e2, e3, e4, e5⟩ := hE.sl t e z hs
    rcases br_some hk with ⟨h1, h2⟩ | ⟨_, h2⟩
    · simp only [Bool.and_eq_true, decide_eq_true_eq] at h1
      obtain ⟨h1, h3, h4⟩ := h1
      have hlim : c ≤ 1099511627776 := by unfold lim at h4; exact h4
      have hzc : z.val.cells = #[z.val] := by cases z <;> rfl
      have hbytes : (ti.bytes : Int) * c ≤ 281474976710656 := by
        have hb : (ti.bytes : Int) ≤ 16 := by omega
        have h0 : 0 ≤ c := by omega
        calc (ti.bytes : Int) * c ≤ 16 * c := Int.mul_le_mul_of_nonneg_right hb h0
          _ ≤ 281474976710656 := by omega
      have hr := run_make (P := P) w t e ti z.val e1 e2 e5 kx ky m c h1 h3 hbytes (by omega)
      have run : (execOp a.eval o).run P w = .ok (.value (.slice (some ⟨w.heap.size, 0, none⟩) m.toNat c.toNat)) (w.alloc (.cells (madeCells z.val.cells (c.toNat * ti.size)) e)) := by
        simp only [execOp, ho, eval_sc h hx, eval_sc h hy, Sc.val, Sem.run_bind, hr, Result.andThen_ok, Sem.run_pure]
      intro next Q hn'
      obtain ⟨own', hst⟩ := h.put ((Below.refl _ _).alloc (Nat.le_refl _) (.cells (madeCells z.val.cells (c.toNat * ti.size)) e)) (v := .own e (List.replicate m.toNat z)) (x := .slice (some ⟨w.heap.size, 0, none⟩) m.toNat c.toNat) (by
        refine ⟨by simp, .inr ⟨w.heap.size, c.toNat, madeCells z.val.cells (c.toNat * ti.size), by simp, Nat.le_refl _, heap_alloc_new w _, by simp; omega, by unfold maxLen; omega, by simp [size_madeCells, e3], ?_⟩⟩
        rw [hzc, e3, Nat.mul_one, toList_madeCells_one]
        simp
        omega) d
      exact wp_val run (by rw [hd]; exact hn' own' _ _ _ h2 hst)
    · cases h2
  · cases hk
end
end Go.Proofs.Ytppgjmdncffecaa.Ev
