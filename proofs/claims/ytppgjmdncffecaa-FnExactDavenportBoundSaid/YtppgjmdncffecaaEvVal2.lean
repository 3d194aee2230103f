/-
  EvVal2: operations that hand back a value are the model's.
-/
import Derived.Test.YtppgjmdncffecaaEvVal
namespace Go.Proofs.Ytppgjmdncffecaa.Ev
open Go Go.RowKit

section
variable {P : Program} {E : Env} {cl : Calling} {B : Nat} {w0 w : World} {own : Own} {σ : List AV} {a : Act} {R : Type}

/-- What the rule for an operation wants. -/
def Gives (P : Program) (B : Nat) (own : Own) (σ : List AV) (a : Act) (w : World) (o : Oper) (k : AV → Option R) (r : R) : Prop :=
  ∀ (next : Act → World → Prop) (Q : Exit → Act → World → Prop), (∀ v x w', k v = some r → Below w.heap.size w w' → NV B own σ a.tmps w w' v x → next (a.put o.dst x) w') → o.wp P a w next Q

theorem gives_val {o : Oper} {k : AV → Option R} {r : R} {x : Value} {v : AV} (hr : (execOp a.eval o).run P w = .ok (.value x) w) (hk : k v = some r) (hv : NV B own σ a.tmps w w v x) : Gives P B own σ a w o k r :=
  fun _ _ hn => wp_val hr (hn v x w hk (Below.refl _ _) hv)

theorem val_move (h : St B w0 own σ a w) {o : Oper} {x : Operand} (ho : o.op = .move x) {k : AV → Option R} {r : R} (hk : k (evalO σ x) = some r) : Gives P B own σ a w o k r :=
  gives_val (by simp [execOp, ho]) hk (NV_of_GV (h.eval x))

theorem val_pick (h : St B w0 own σ a w) {o : Oper} {c x y : Operand} (ho : o.op = .pick c x y) {k : AV → Option R} {r : R} (hk : valOp E cl σ (.pick c x y) k = some r) : Gives P B own σ a w o k r := by
  simp only [valOp] at hk
  split at hk
  · rename_i t hc
    have hc' := eval_sc h hc
    simp only [Sc.val] at hc'
    have run : (execOp a.eval o).run P w = .ok (.value (if t then a.eval x else a.eval y)) w := by
      simp [execOp, ho, hc', asBool]
    split at hk
    · rename_i x' y' hx hy
      rcases br_some hk with ⟨rfl, h2⟩ | ⟨rfl, h2⟩
      · exact gives_val run h2 (by simp [NV, GV, G, eval_sc h hx])
      · exact gives_val run h2 (by simp [NV, GV, G, eval_sc h hy])
    · rename_i x' hx _
      rcases br_some hk with ⟨rfl, h2⟩ | ⟨rfl, h2⟩
      · exact gives_val run h2 (by simp [NV, GV, G, eval_sc h hx])
      · cases h2
    · rename_i y' hy _
      rcases br_some hk with ⟨rfl, h2⟩ | ⟨rfl, h2⟩
      · cases h2
      · exact gives_val run h2 (by simp [NV, GV, G, eval_sc h hy])
    · cases hk
  · cases hk

theorem val_box (h : St B w0 own σ a w) {o : Oper} {t : TypeId} {x : Operand} (ho : o.op = .box t x) {k : AV → Option R} {r : R} (hk : valOp E cl σ (.box t x) k = some r) : Gives P B own σ a w o k r := by
  simp only [valOp] at hk
  split at hk
  · rename_i s L hs hx
    have hev := h.eval x
    rw [hx] at hev
    obtain ⟨A, c, h1, h2, h3⟩ := hev
    intro next Q hn
    have run : (execOp a.eval o).run P w = .ok (.value (.pointer (some ⟨w.heap.size, 0, none⟩))) (w.alloc (.cells #[.slice A L.length c] t)) := by
      simp [execOp, ho, h1, Instr.box, newVar, newRow, Value.cells]
    refine wp_val run (hn _ _ _ hk ((Below.refl _ _).alloc (Nat.le_refl _) _) ⟨⟨w.heap.size, 0, none⟩, A, c, rfl, notin h (Nat.le_refl _), ?_, h2, h3.keep (Agree.of_below ((Below.refl _ _).alloc (Nat.le_refl _) _)) fun _ _ hb => hb⟩)
    have hnew := heap_alloc_new w (.cells #[.slice A L.length c] t)
    simp only [World.cell?, hnew]
    rfl
  · cases hk

theorem val_fieldAddr (h : St B w0 own σ a w) (hE : EnvOk P E) {o : Oper} {t : TypeId} {x : Operand} {f : Nat} (ho : o.op = .fieldAddr t x f) {k : AV → Option R} {r : R} (hk : valOp E cl σ (.fieldAddr t x f) k = some r) : Gives P B own σ a w o k r := by
  simp only [valOp] at hk
  split at hk
  · rename_i s L hs hx
    have hev := h.eval x
    rw [hx] at hev
    obtain ⟨ad, A, c, h1, h2, h3, h4, h5⟩ := hev
    obtain ⟨fd, i, j, e1, e2, e3, e4, _⟩ := hE.gr t s hs
    have run : (execOp a.eval o).run P w = .ok (.value (.pointer (some ad))) w := by
      simp [execOp, ho, h1, Instr.fieldAt, run_underlying e1, Instr.sureAddr, fieldPlace, run_sizeOf e3, e4, e2, Addr.add_zero']
    exact gives_val run hk ⟨ad, A, c, rfl, h2, h3, h4, h5⟩
  · cases hk

theorem val_field (h : St B w0 own σ a w) (hE : EnvOk P E) {o : Oper} {t : TypeId} {x : Operand} {f : Nat} (ho : o.op = .field t x f) {k : AV → Option R} {r : R} (hk : valOp E cl σ (.field t x f) k = some r) : Gives P B own σ a w o k r := by
  simp only [valOp] at hk
  split at hk
  · rename_i s L hs hx
    have hev := h.eval x
    rw [hx] at hev
    obtain ⟨A, c, h1, h2, h3⟩ := hev
    obtain ⟨fd, i, j, e1, e2, e3, e4, e5, e6, e7, e, e8⟩ := hE.gr t s hs
    have run : (execOp a.eval o).run P w = .ok (.value (.slice A L.length c)) w := by
      simp [execOp, ho, h1, Instr.field, run_underlying e1, asAgg, part, isAgg_slice (e7.trans e8), e2]
    exact gives_val run hk ⟨A, c, rfl, h2, h3⟩
  · cases hk

theorem val_load (h : St B w0 own σ a w) (hE : EnvOk P E) {o : Oper} {t : TypeId} {x : Operand} (ho : o.op = .load t x) {k : AV → Option R} {r : R} (hk : valOp E cl σ (.load t x) k = some r) : Gives P B own σ a w o k r := by
  simp only [valOp] at hk
  have hev := h.eval x
  split at hk
  · rename_i L hx
    rw [hx] at hev
    obtain ⟨ad, A, c, h1, h2, h3, h4, h5⟩ := hev
    split at hk
    · rename_i s hs
      obtain ⟨fd, i, j, e1, e2, e3, e4, e5, e6, e7, e, e8⟩ := hE.gr t s hs
      have run : (execOp a.eval o).run P w = .ok (.value (.agg #[.slice A L.length c])) w := by
        simp [execOp, ho, h1, Instr.loadAt, Instr.sureAddr, run_loadVar_agg1 (isAgg_struct e1) e5 e6 h3]
      exact gives_val run hk ⟨A, c, rfl, h4, h5⟩
    · rename_i y hs _
      obtain ⟨e1, _⟩ := hE.sl t y.1 y.2 hs
      have run : (execOp a.eval o).run P w = .ok (.value (.slice A L.length c)) w := by
        simp [execOp, ho, h1, Instr.loadAt, Instr.sureAddr, run_loadVar_one (isAgg_slice e1) h3]
      exact gives_val run hk ⟨A, c, rfl, h4, h5⟩
    · cases hk
  · rename_i y hx
    rw [hx] at hev
    obtain ⟨ad, h1, h2, h3⟩ := hev
    split at hk
    · rename_i ht
      obtain ⟨e1, _⟩ := hE.sc t ht
      have run : (execOp a.eval o).run P w = .ok (.value y.val) w := by
        simp [execOp, ho, h1, Instr.loadAt, Instr.sureAddr, run_loadVar_one (isAgg_sc e1) h3]
      exact gives_val run hk rfl
    · cases hk
  · rename_i s i hx
    rw [hx] at hev
    obtain ⟨e, L, g, cap, h1, h2, h3, h4⟩ := hev
    split at hk
    · rename_i z e' L' ht _ ho'
      have hq := ownOf_eq ho'
      rw [h1] at hq
      injection hq with hq1 hq2
      subst hq2
      rcases br_some hk with ⟨hsk, hk2⟩ | ⟨_, hk2⟩
      · obtain ⟨e1, _⟩ := hE.sc t ht
        obtain ⟨h5, _⟩ := own_at h h1
        rw [h2] at h5
        have hcell := h5.cells (g := g) rfl i (L.getD i z).val (by simp [List.getD, h3])
        rw [Addr.add_lit, Nat.zero_add] at hcell
        have run : (execOp a.eval o).run P w = .ok (.value (L.getD i z).val) w := by
          simp only [execOp, ho, h4, Instr.loadAt, Instr.sureAddr, Sem.run_bind, Sem.run_pure, Result.andThen_ok, run_loadVar_one (isAgg_sc e1) hcell]
        rw [castSc_eq hsk] at hk2
        exact gives_val run hk2 rfl
      · cases hk2
    · cases hk
  · cases hk

theorem val_binOp (h : St B w0 own σ a w) (hE : EnvOk P E) {o : Oper} {op : BinOp} {t t' : TypeId} {x y : Operand} (ho : o.op = .binOp op t x y t') {k : AV → Option R} {r : R} (hk : valOp E cl σ (.binOp op t x y t') k = some r) : Gives P B own σ a w o k r := by
  simp only [valOp] at hk
  split at hk
  · rename_i x' y' hx hy
    split at hk
    · rename_i hok
      obtain ⟨z, hz, hrun⟩ := scBin_sound (P := P) (w := w) (t := t) (by rintro b rfl; exact hE.bl t hok) hk
      have hgd : ∀ (u v : Value), eqGuard op t x y x'.val v = pure () := fun u v => by
        cases x' with
        | n kd n => exact eqGuard_at_int ..
        | b b => exact eqGuard_at_bool ..
        | s s => exact eqGuard_at_string ..
      have run : (execOp a.eval o).run P w = .ok (.value z.val) w := by
        simp only [execOp, ho, eval_sc h hx, eval_sc h hy, hgd undef, Sem.run_bind, Sem.run_pure, Result.andThen_ok, hrun]
      exact gives_val run hz rfl
    · cases hk
  · cases hk

theorem val_unOp (h : St B w0 own σ a w) {o : Oper} {op : UnOp} {t : TypeId} {x : Operand} (ho : o.op = .unOp op t x) {k : AV → Option R} {r : R} (hk : valOp E cl σ (.unOp op t x) k = some r) : Gives P B own σ a w o k r := by
  simp only [valOp] at hk
  split at hk
  · rename_i x' hx
    have run : (execOp a.eval o).run P w = .ok (.value (.bool (!x'))) w := by
      simp [execOp, ho, eval_sc h hx, Sc.val, Op.unary]
    exact gives_val run hk rfl
  · rename_i kd x' hx
    have run : (execOp a.eval o).run P w = .ok (.value (.int kd (kd.wrap (0 - x')))) w := by
      simp [execOp, ho, eval_sc h hx, Sc.val, Op.unary, Op.intArith]
    exact gives_val run hk rfl
  · cases hk

theorem val_convert (h : St B w0 own σ a w) (hE : EnvOk P E) {o : Oper} {s d : TypeId} {x : Operand} (ho : o.op = .convert s d x) {k : AV → Option R} {r : R} (hk : valOp E cl σ (.convert s d x) k = some r) : Gives P B own σ a w o k r := by
  simp only [valOp] at hk
  split at hk
  · rename_i ks kd kx n hs hd hx
    have run : (execOp a.eval o).run P w = .ok (.value (.int kd (kd.wrap n))) w := by
      simp [execOp, ho, eval_sc h hx, Sc.val, convert, run_underlying (hE.ik s ks hs), run_underlying (hE.ik d kd hd), Conv.intToInt]
    exact gives_val run hk rfl
  · cases hk

theorem val_indexAddr (h : St B w0 own σ a w) (hE : EnvOk P E) {o : Oper} {t : TypeId} {x i : Operand} (ho : o.op = .indexAddr t x i) {k : AV → Option R} {r : R} (hk : valOp E cl σ (.indexAddr t x i) k = some r) : Gives P B own σ a w o k r := by
  simp only [valOp] at hk
  have hev := h.eval x
  split at hk
  · rename_i e0 z L kd j hs hx hi
    obtain ⟨e1, ti, e2, e3, _⟩ := hE.sl t e0 z hs
    rcases br_some hk with ⟨h1, h2⟩ | ⟨_, h2⟩
    · simp only [Bool.and_eq_true] at h1
      obtain ⟨h1, h1k⟩ := h1
      rw [castSc_eq h1k] at h2
      rw [hx] at hev
      obtain ⟨A, c, h3, h4, h5⟩ := hev
      rcases h5 with rfl | ⟨ad, rfl, h6, h7⟩
      · simp only [inRange, List.length_nil, Bool.and_eq_true, decide_eq_true_eq] at h1; omega
      · have run : (execOp a.eval o).run P w = .ok (.value (.pointer (some (ad.add j.toNat)))) w := by
          simp only [execOp, ho, h3, eval_sc h hi, Sc.val, Sem.run_bind, Sem.run_pure, Result.andThen_ok, run_indexAt_one e1 e2 e3 ad _ _ _ _ h1]
        exact gives_val run h2 ⟨_, rfl, by rw [block_of_add]; exact h6, ad_cell z h7 h1⟩
    · cases h2
  · rename_i e0 z e' L kd j hs hx hi
    obtain ⟨e1, ti, e2, e3, _⟩ := hE.sl t e0 z hs
    rcases br_some hk with ⟨h1, h2⟩ | ⟨_, h2⟩
    · simp only [Bool.and_eq_true] at h1
      obtain ⟨h1, h1k⟩ := h1
      rw [castSc_eq h1k] at h2
      rw [hx] at hev
      obtain ⟨h3, h3'⟩ := hev
      obtain ⟨A, c, h4⟩ := ownsRow_slice h3
      rw [h4] at h3 h3'
      obtain ⟨_, _, h5⟩ := Rd_of_own (X := Xo own) h3 h3'
      rcases h5 with rfl | ⟨ad, rfl, h6, h7⟩
      · simp only [inRange, List.length_nil, Bool.and_eq_true, decide_eq_true_eq] at h1; omega
      · have run : (execOp a.eval o).run P w = .ok (.value (.pointer (some (ad.add j.toNat)))) w := by
          simp only [execOp, ho, h4, eval_sc h hi, Sc.val, Sem.run_bind, Sem.run_pure, Result.andThen_ok, run_indexAt_one e1 e2 e3 ad _ _ _ _ h1]
        exact gives_val run h2 ⟨_, rfl, by rw [block_of_add]; exact h6, ad_cell z h7 h1⟩
    · cases h2
  · rename_i y s kd j hs hx hi
    obtain ⟨e1, ti, e2, e3, _⟩ := hE.sl t y.1 y.2 hs
    split at hk
    · rename_i e' L ho'
      have hq := ownOf_eq ho'
      rcases br_some hk with ⟨h1, h2⟩ | ⟨_, h2⟩
      · rw [hx] at hev
        obtain ⟨e'', L'', h3, h4⟩ := hev
        rw [hq] at h3
        injection h3 with h3 h3'
        subst h3'
        obtain ⟨h5, _⟩ := own_at h hq
        have hin : 0 ≤ j ∧ j < L.length := by simpa [inRange, Bool.and_eq_true, decide_eq_true_eq] using h1
        rcases h5.2 with ⟨h6, h7⟩ | ⟨g, cap, cur, h6, _⟩
        · rw [h7] at hin; omega
        · have run : (execOp a.eval o).run P w = .ok (.value (.pointer (some ⟨g, j.toNat, none⟩))) w := by
            have hx' : a.eval x = .slice (some ⟨g, 0, none⟩) L.length cap := h4.symm.trans h6
            have := run_indexAt_one (w := w) e1 e2 e3 ⟨g, 0, none⟩ L.length cap kd j h1
            rw [Addr.add_lit, Nat.zero_add] at this
            simp only [execOp, ho, hx', eval_sc h hi, Sc.val, Sem.run_bind, Sem.run_pure, Result.andThen_ok, this]
          exact gives_val run h2 ⟨e', L, g, cap, hq, h6, by omega, rfl⟩
      · cases h2
    · cases hk
  · cases hk

theorem val_index (h : St B w0 own σ a w) (hE : EnvOk P E) {o : Oper} {t : TypeId} {x i : Operand} (ho : o.op = .index t x i) {k : AV → Option R} {r : R} (hk : valOp E cl σ (.index t x i) k = some r) : Gives P B own σ a w o k r := by
  simp only [valOp] at hk
  split at hk
  · rename_i s kd j hs hx hi
    rcases br_some hk with ⟨h1, h2⟩ | ⟨_, h2⟩
    · have hin : 0 ≤ j ∧ j < s.size := by simpa [inRange, Bool.and_eq_true, decide_eq_true_eq] using h1
      have hj : j.toNat < s.size := by omega
      have run : (execOp a.eval o).run P w = .ok (.value (.int .u8 (s.data.toList.getD j.toNat 0).toNat)) w := by
        have hg : s[j.toNat]? = some (s.data.toList.getD j.toNat 0) := by
          have hj' : j.toNat < s.data.toList.length := by simpa using hj
          rw [getElem?_pos s j.toNat hj]
          simp only [List.getD, List.getElem?_eq_getElem hj', Option.getD_some]
          rfl
        simp [execOp, ho, eval_sc h hx, eval_sc h hi, Sc.val, Instr.index, asIntOf, run_underlying (hE.st t hs), hin.1, hg]
      exact gives_val run h2 rfl
    · cases h2
  · cases hk

theorem val_extract (h : St B w0 own σ a w) {o : Oper} {x : Operand} {i : Nat} (ho : o.op = .extract x i) {k : AV → Option R} {r : R} (hk : valOp E cl σ (.extract x i) k = some r) : Gives P B own σ a w o k r := by
  have hev := h.eval x
  have key : ∀ (v : AV) (xs : Array Value) (y : Value), a.eval x = .tuple xs → xs[i]? = some y → G B w (Xo own) v y → k v = some r → Gives P B own σ a w o k r := by
    intro v xs y h1 h2 h3 h4
    have run : (execOp a.eval o).run P w = .ok (.value y) w := by
      simp [execOp, ho, h1, Instr.extract, h2]
    exact gives_val run h4 (NV_of_GV (GV_plain h3))
  simp only [valOp] at hk
  split at hk
  · cases hk
  · rename_i v hne
    cases hx : evalO σ x with
    | t2 p q =>
      rw [hx] at hev hk
      obtain ⟨p', q', h1, h2, h3⟩ := hev
      match i with
      | 0 => exact key _ _ _ h1 rfl h2 hk
      | 1 => exact key _ _ _ h1 rfl h3 hk
      | n + 2 => rw [hx] at hne; exact (hne rfl).elim
    | t3 p q s =>
      rw [hx] at hev hk
      obtain ⟨p', q', s', h1, h2, h3, h4⟩ := hev
      match i with
      | 0 => exact key _ _ _ h1 rfl h2 hk
      | 1 => exact key _ _ _ h1 rfl h3 hk
      | 2 => exact key _ _ _ h1 rfl h4 hk
      | n + 3 => rw [hx] at hne; exact (hne rfl).elim
    | t4 p q s v4 =>
      rw [hx] at hev hk
      obtain ⟨p', q', s', v', h1, h2, h3, h4, h5⟩ := hev
      match i with
      | 0 => exact key _ _ _ h1 rfl h2 hk
      | 1 => exact key _ _ _ h1 rfl h3 hk
      | 2 => exact key _ _ _ h1 rfl h4 hk
      | 3 => exact key _ _ _ h1 rfl h5 hk
      | n + 4 => rw [hx] at hne; exact (hne rfl).elim
    | _ => rw [hx] at hne; exact (hne rfl).elim

theorem val_len (h : St B w0 own σ a w) (hE : EnvOk P E) {o : Oper} {c : Call} (ho : o.op = .call c) (hc : c.callee = .builtin .len) {k : AV → Option R} {r : R} (hk : valOp E cl σ (.call c) k = some r) : Gives P B own σ a w o k r := by
  obtain ⟨cal, args, tys⟩ := c
  simp only at hc
  subst hc
  simp only [valOp] at hk
  split at hk
  · rename_i x t hx ht
    have hx' : args = #[x] := Array.toList_inj.1 hx
    have ht' : tys = #[t] := Array.toList_inj.1 ht
    subst hx'
    subst ht'
    have mk : ∀ (n : Nat), (Builtin.len_ #[t] o.type #[a.eval x]).run P w = .ok (.int .i64 n) w → (execOp a.eval o).run P w = .ok (.value (.int .i64 n)) w := fun n hr => by
      simp [execOp, ho, resolve, invoke, builtin, hr]
    split at hk
    · rename_i s hs
      split at hk
      · rename_i hst
        refine gives_val (mk s.size ?_) hk rfl
        simp [Builtin.len_, run_underlying (hE.st t hst), eval_sc h hs, Sc.val, goInt]
      · cases hk
    · split at hk
      · rename_i y L hsl hl
        obtain ⟨e1, _⟩ := hE.sl t y.1 y.2 hsl
        obtain ⟨A, cp, h1, _⟩ := list_of h hl
        refine gives_val (mk L.length ?_) hk rfl
        simp [Builtin.len_, run_underlying e1, h1, goInt]
      · cases hk
  · cases hk

theorem map2 {args : Array Operand} {p q : AV} (h : args.toList.map (evalO σ) = [p, q]) : ∃ x y, args = #[x, y] ∧ evalO σ x = p ∧ evalO σ y = q := by
  obtain ⟨l⟩ := args
  match l, h with
  | [x, y], h =>
    simp only [List.map_cons, List.map_nil, List.cons.injEq, and_true] at h
    exact ⟨x, y, rfl, h.1, h.2⟩

theorem val_min (h : St B w0 own σ a w) {o : Oper} {c : Call} (ho : o.op = .call c) (hc : c.callee = .builtin .min) {k : AV → Option R} {r : R} (hk : valOp E cl σ (.call c) k = some r) : Gives P B own σ a w o k r := by
  obtain ⟨cal, args, tys⟩ := c
  simp only at hc
  subst hc
  simp only [valOp] at hk
  split at hk
  · rename_i kx x' ky y' hm
    obtain ⟨x, y, rfl, hx, hy⟩ := map2 hm
    refine gives_val (x := .int kx (if y' < x' then y' else x')) ?_ hk rfl
    simp [execOp, ho, resolve, invoke, builtin, eval_sc h hx, eval_sc h hy, Sc.val, run_min_int2]
  · cases hk

theorem val_max (h : St B w0 own σ a w) {o : Oper} {c : Call} (ho : o.op = .call c) (hc : c.callee = .builtin .max) {k : AV → Option R} {r : R} (hk : valOp E cl σ (.call c) k = some r) : Gives P B own σ a w o k r := by
  obtain ⟨cal, args, tys⟩ := c
  simp only at hc
  subst hc
  simp only [valOp] at hk
  split at hk
  · rename_i kx x' ky y' hm
    obtain ⟨x, y, rfl, hx, hy⟩ := map2 hm
    refine gives_val (x := .int kx (if y' > x' then y' else x')) ?_ hk rfl
    simp [execOp, ho, resolve, invoke, builtin, eval_sc h hx, eval_sc h hy, Sc.val, run_max_int2]
  · cases hk

theorem args_ok (h : St B w0 own σ a w) {args : Array Operand} (ha : (args.toList.map fun x => argOf σ (evalO σ x)).all isArg = true) : Args w (args.toList.map fun x => argOf σ (evalO σ x)) (args.toList.map a.eval) := by
  refine ⟨by simp, fun i v x hv hx => ?_⟩
  simp only [List.getElem?_map, Option.map_eq_some_iff] at hv hx
  obtain ⟨p, hp, rfl⟩ := hv
  obtain ⟨q, hq, rfl⟩ := hx
  rw [hp] at hq
  injection hq with hq
  subst hq
  have hin : isArg (argOf σ (evalO σ p)) = true := by
    rw [List.all_eq_true] at ha
    exact ha _ (List.mem_map.2 ⟨p, List.mem_of_getElem? hp, rfl⟩)
  exact ⟨hin, argOf_G h p hin⟩

theorem run_callFunc {f : FuncId} {fn : Func} {args : Array Value} (hf : P.funcs[f]? = some fn) (hb : fn.body.isSome = true) (hn : (fn.name == "runtime.NumGoroutine") = false) : (callFunc f args).run P w = .ok (.enter f args) w := by
  have hb' : fn.body ≠ none := by rintro e; rw [e] at hb; cases hb
  have hn' : fn.name ≠ "runtime.NumGoroutine" := by simpa using hn
  simp [callFunc, hf, hb', hn']

theorem val_call (h : St B w0 own σ a w) (hE : EnvOk P E) (hcl : CallOk P cl) {o : Oper} {c : Call} {f : FuncId} (ho : o.op = .call c) (hc : c.callee = .value (.func f)) {k : AV → Option R} {r : R} (hk : valOp E cl σ (.call c) k = some r) : Gives P B own σ a w o k r := by
  obtain ⟨cal, args, tys⟩ := c
  simp only at hc
  subst hc
  simp only [valOp] at hk
  split at hk
  · rename_i hall
    split at hk
    · split at hk
      · cases hk
      rename_i g rs hrs _ hsoft
      have hk' : g = true ∧ k (packed rs) = some r := by
        rcases br_some hk with ⟨h1, h2⟩ | ⟨_, h2⟩
        · exact ⟨h1, h2⟩
        · cases h2
      obtain ⟨rfl, hk⟩ := hk'
      obtain ⟨⟨fn, hf, hb⟩, hcall⟩ := hcl f _ rs hrs
      intro next Q hn
      have hargs := args_ok h hall
      have hc' := hcall _ w hargs
      unfold Oper.wp
      have run : (execOp a.eval o).run P w = .ok (.enter f (args.toList.map a.eval).toArray) w := by
        have e1 : (args.map a.eval) = (args.toList.map a.eval).toArray := by
          apply Array.ext'
          simp
        simp only [execOp, ho, resolve, Act.eval, Deferred.ofValue, Sem.run_bind, Sem.run_pure, Result.andThen_ok, invoke, Array.append_empty, Array.empty_append, e1]
        rw [run_callFunc hf hb (hE.fn f fn hf hb)]
      rw [run]
      refine hc'.mono fun e w' hpost => ?_
      obtain ⟨xs, he, hret, hbel⟩ := hpost
      subst he
      exact hn (packed rs) (packV xs) w' hk hbel (NV_packed h (.inl hsoft) hret)
    · cases hk
  · cases hk

/-- **An operation that hands back a value does so in the model.** -/
theorem valOp_sound (h : St B w0 own σ a w) (hE : EnvOk P E) (hcl : CallOk P cl) {o : Oper} {op : Op} (ho : o.op = op) {k : AV → Option R} {r : R} (hk : valOp E cl σ op k = some r) : Gives P B own σ a w o k r := by
  cases op with
  | move x => exact val_move h ho hk
  | pick c x y => exact val_pick h ho hk
  | box t x => exact val_box h ho hk
  | fieldAddr t x f => exact val_fieldAddr h hE ho hk
  | field t x f => exact val_field h hE ho hk
  | load t x => exact val_load h hE ho hk
  | binOp op t x y t' => exact val_binOp h hE ho hk
  | unOp op t x => exact val_unOp h ho hk
  | convert s d x => exact val_convert h hE ho hk
  | indexAddr t x i => exact val_indexAddr h hE ho hk
  | index t x i => exact val_index h hE ho hk
  | extract x i => exact val_extract h ho hk
  | call c =>
    cases hc : c.callee with
    | value f =>
      cases f with
      | func f => exact val_call h hE hcl ho hc hk
      | _ => simp [valOp, hc] at hk
    | invoke f m => simp [valOp, hc] at hk
    | builtin b =>
      cases b with
      | len => exact val_len h hE ho hc hk
      | min => exact val_min h ho hc hk
      | max => exact val_max h ho hc hk
      | _ => simp [valOp, hc] at hk
  | _ => simp [valOp] at hk
end
end Go.Proofs.Ytppgjmdncffecaa.Ev
