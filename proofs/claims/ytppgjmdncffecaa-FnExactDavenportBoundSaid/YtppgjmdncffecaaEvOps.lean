/-
  EvOps: the evaluator's operations are the model's.
-/
import Derived.Test.YtppgjmdncffecaaEvMove
namespace Go.Proofs.Ytppgjmdncffecaa.Ev
open Go Go.RowKit

structure EnvOk (P : Program) (E : Env) : Prop where
  sl : ∀ t e z, look E.sl t = some (e, z) → P.underlying t = some (.slice e) ∧ ∃ i, P.info? e = some i ∧ i.size = 1 ∧ i.bytes ≤ 16 ∧ i.zero = some z.val
  gr : ∀ t s, look E.gr t = some s → ∃ f i j, P.underlying t = some (.struct #[f]) ∧ f.offset = 0 ∧ P.info? f.type = some i ∧ i.size = 1 ∧ P.info? t = some j ∧ j.size = 1 ∧ P.underlying f.type = P.underlying s ∧ ∃ e, P.underlying s = some (.slice e)
  sc : ∀ t, isIn E.sc t = true → (P.underlying t = some .bool ∨ (∃ k, P.underlying t = some (.int k)) ∨ P.underlying t = some .string) ∧ ∃ i, P.info? t = some i ∧ i.size = 1
  bl : ∀ t, isIn E.bl t = true → P.underlying t = some .bool
  ik : ∀ t k, look E.ik t = some k → P.underlying t = some (.int k)
  st : ∀ t, isIn E.st t = true → P.underlying t = some .string
  fn : ∀ (f : Nat) fn, P.funcs[f]? = some fn → fn.body.isSome = true → (fn.name == "runtime.NumGoroutine") = false
  wide : P.follows .mixedOrders = true

def packV : List Value → Value
  | [x] => x
  | xs => .tuple xs.toArray

/-- What a call hands back: scalars, and slices in new rows of their own. -/
def RV (B : Nat) (w : World) (own : Own) (i : Nat) : AV → Value → Prop
  | .sc y, x => x = y.val
  | .own e L, x => w.ownsRow B e 1 x L.length (L.map Sc.val) ∧ own i = x.ownBlock
  | .sl L, x => ∃ A c, x = .slice A L.length c ∧ L.length ≤ c ∧ Rd w (fun _ => False) A L
  | .gr L, x => ∃ A c, x = .agg #[.slice A L.length c] ∧ L.length ≤ c ∧ Rd w (fun b => b < B) A L
  | .bp L, x => ∃ A c, x = .agg #[.slice A L.length c] ∧ L.length ≤ c ∧ Rd w (fun _ => False) A L
  | _, _ => False
structure RetOk (B : Nat) (w : World) (rs : List AV) (xs : List Value) : Prop where
  len : xs.length = rs.length
  own : ∃ own : Own, (∀ s t b, own s = some b → own t = some b → s = t) ∧ ∀ (i : Nat) (r : AV) (x : Value), rs[i]? = some r → xs[i]? = some x → RV B w own i r x

def Args (w : World) (args : List AV) (vs : List Value) : Prop :=
  vs.length = args.length ∧ ∀ (i : Nat) (v : AV) (x : Value), args[i]? = some v → vs[i]? = some x → isArg v = true ∧ G 0 w (fun _ => False) v x

def CallOk (P : Program) (cl : Calling) : Prop :=
  ∀ f args rs, cl f args = some (true, rs) → (∃ fn, P.funcs[f]? = some fn ∧ fn.body.isSome = true) ∧ ∀ vs w, Args w args vs →
    Calls P f vs.toArray w fun e w' => ∃ xs, e = .returned (packV xs) ∧ RetOk w.heap.size w' rs xs ∧ Below w.heap.size w w'

section
variable {P : Program} {E : Env} {cl : Calling} {B : Nat} {w0 w : World} {own : Own} {σ : List AV} {a : Act}

theorem wp_val {o : Oper} {next : Act → World → Prop} {Q : Exit → Act → World → Prop} {x : Value} {w' : World} (hr : (execOp a.eval o).run P w = .ok (.value x) w') (hn : next (a.put o.dst x) w') : o.wp P a w next Q := by
  unfold Oper.wp
  rw [hr]
  exact hn

theorem br_some {α : Type} {t : Bool} {x y : Option α} {r : α} (h : br t x y = some r) : (t = true ∧ x = some r) ∨ (t = false ∧ y = some r) := by
  cases t
  · exact .inr ⟨rfl, h⟩
  · exact .inl ⟨rfl, h⟩

theorem eval_sc (h : St B w0 own σ a w) {x : Operand} {y : Sc} (hx : evalO σ x = .sc y) : a.eval x = y.val := by
  have := h.eval x
  rw [hx] at this
  exact this

theorem isAgg_slice {t e : TypeId} (h : P.underlying t = some (.slice e)) : (isAgg t).run P w = .ok false w := by
  simp [isAgg, run_underlying h]
theorem isAgg_struct {t : TypeId} {fs : Array Field} (h : P.underlying t = some (.struct fs)) : (isAgg t).run P w = .ok true w := by
  simp [isAgg, run_underlying h]
theorem isAgg_sc {t : TypeId} (h : P.underlying t = some .bool ∨ (∃ k, P.underlying t = some (.int k)) ∨ P.underlying t = some .string) : (isAgg t).run P w = .ok false w := by
  rcases h with h | ⟨k, h⟩ | h <;> simp [isAgg, run_underlying h]
theorem run_sizeOf {t : TypeId} {i : TypeInfo} (h : P.info? t = some i) : (sizeOf t).run P w = .ok i.size w := by
  simp [sizeOf, typeInfo, h]

theorem run_loadVar_one {t : TypeId} {ad : Addr} {v : Value} (hagg : (isAgg t).run P w = .ok false w) (hc : w.cell? ad = some v) : (loadVar t ad).run P w = .ok v w := by
  simp [loadVar, Sem.run_bind, hagg, hc]
theorem run_loadVar_agg1 {t : TypeId} {ad : Addr} {v : Value} {i : TypeInfo} (hagg : (isAgg t).run P w = .ok true w) (hi : P.info? t = some i) (hs : i.size = 1) (hc : w.cell? ad = some v) : (loadVar t ad).run P w = .ok (.agg #[v]) w := by
  have hl := run_loadCells_list (P := P) (w := w) ad [v] (by
    intro j u hj
    cases j with
    | zero => simp at hj; subst hj; simpa [Addr.add_zero'] using hc
    | succ j => simp at hj)
  simp at hl
  simp [loadVar, Sem.run_bind, hagg, run_sizeOf hi, hs, hl]

theorem notin {b : Nat} (h : St B w0 own σ a w) (hb : w.heap.size ≤ b) : ¬ Xo own b := by
  rintro ⟨s, hs⟩
  have := (h.old s b hs).2
  omega

theorem NV_sc (w' : World) (y : Sc) : NV B own σ a.tmps w w' (.sc y) y.val := rfl

/-- A scalar operation of two numbers. -/
theorem scBin_sound {R : Type} {op : BinOp} {x y : Sc} {k : Sc → Option R} {r : R} {t : TypeId} (hb : ∀ b, x = .b b → P.underlying t = some .bool) (hk : scBin op x y k = some r) :
    ∃ z, k z = some r ∧ (binOp op t x.val y.val).run P w = .ok z.val w := by
  cases x with
  | n kx a =>
    cases y with
    | n ky b =>
      cases op <;> simp only [scBin] at hk
      case shl =>
        rcases br_some hk with ⟨_, h2⟩ | ⟨h1, h2⟩
        · cases h2
        · refine ⟨_, h2, ?_⟩
          have h1 : ¬ b < 0 := by simpa using h1
          simp [Sc.val, binOp_shl, Op.shift, h1]
      case shr =>
        rcases br_some hk with ⟨_, h2⟩ | ⟨h1, h2⟩
        · cases h2
        · refine ⟨_, h2, ?_⟩
          have h1 : ¬ b < 0 := by simpa using h1
          simp [Sc.val, binOp_shr, Op.shift, h1]
      all_goals
        split at hk
        case isFalse => cases hk
        case isTrue he =>
          subst he
          first
            | (refine ⟨_, hk, ?_⟩; simp [Sc.val, binOp_add, binOp_sub, binOp_mul, binOp_and, binOp_or, binOp_xor, binOp_andNot, binOp_eql, binOp_neq, binOp_lss, binOp_leq, binOp_gtr, binOp_geq, Op.intArith, intBits_and, intBits_or, intBits_xor, intBits_andNot]; done)
            | (rcases br_some hk with ⟨_, h2⟩ | ⟨h1, h2⟩
               · cases h2
               · refine ⟨_, h2, ?_⟩
                 have h1 : ¬ b = 0 := by simpa using h1
                 simp [Sc.val, binOp_quo, binOp_rem, Op.intDiv, h1])
    | s b => cases op <;> simp [scBin] at hk
    | b b => cases op <;> simp [scBin] at hk
  | s a =>
    cases y with
    | s b =>
      cases op <;> simp only [scBin] at hk <;> first | (cases hk; done) | skip
      case add =>
        rcases br_some hk with ⟨h1, h2⟩ | ⟨_, h2⟩
        · refine ⟨_, h2, ?_⟩
          have h1 : a.size + b.size ≤ lim := by simpa using h1
          have h3 : ¬ ((9223372036854775807 : Int) < (a.size : Int) + (b.size : Int)) := by
            unfold lim at h1
            omega
          simp [Sc.val, binOp, Op.stringOp, h3]
        · cases h2
      case eql => exact ⟨_, hk, by simp [Sc.val, binOp, Op.stringOp]⟩
      case neq => exact ⟨_, hk, by simp [Sc.val, binOp, Op.stringOp]⟩
    | n k b => cases op <;> simp [scBin] at hk
    | b b => cases op <;> simp [scBin] at hk
  | b a =>
    cases y with
    | b b =>
      cases op <;> simp only [scBin] at hk <;> first | (cases hk; done) | skip
      case eql => exact ⟨_, hk, run_eql_bool w t a b (hb a rfl)⟩
      case neq => exact ⟨_, hk, run_neq_bool w t a b (hb a rfl)⟩
    | n k b => cases op <;> simp [scBin] at hk
    | s b => cases op <;> simp [scBin] at hk
end
end Go.Proofs.Ytppgjmdncffecaa.Ev
