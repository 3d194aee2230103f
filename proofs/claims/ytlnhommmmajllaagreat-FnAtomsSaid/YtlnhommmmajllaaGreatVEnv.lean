/-
  VEnv: the types of a program, checked by reckoning.
-/
import Derived.Test.YtlnhommmmajllaaGreatVFn
set_option linter.unusedVariables false
namespace Go.Proofs.YtlnhommmmajllaaGreat.Ev
open Go Go.RowKit
def okZero : Option Value → Sc → Bool
  | some (.int k n), .n k' n' => decide (k = k') && decide (n = n')
  | some (.bool b), .b b' => decide (b = b')
  | some (.string s), .s s' => decide (s = s')
  | some (.slice none 0 0), .l [] => true
  | _, _ => false
def okSl (P : Program) (x : TypeId × TypeId × Sc) : Bool :=
  match P.underlying x.1, P.info? (unF x.2.1) with
  | some (.slice e), some i => (match P.info? x.1 with
    | some j => Nat.beq j.size 1
    | none => false) && (Nat.beq e (unF x.2.1) && (Nat.beq i.size 1 && (Nat.ble i.bytes 32 && (okZero i.zero x.2.2 && wfS (dep x.2.1) x.2.2))))
  | _, _ => false
def okGr (P : Program) (x : TypeId × TypeId) : Bool :=
  match P.underlying x.1, P.info? x.1, P.underlying x.2 with
  | some (.struct fs), some j, some (.slice _) => match fs.toList with
    | [f] => Nat.beq f.offset 0 && (Nat.beq f.type x.2 && (Nat.beq j.size 1 && ((match P.info? f.type with
        | some i => Nat.beq i.size 1
        | none => false) && (match j.zero with
        | some (.agg a) => Nat.beq a.size 1
        | _ => false))))
    | _ => false
  | _, _, _ => false
def okSc (P : Program) (t : TypeId) : Bool :=
  match P.info? t with
  | some i => Nat.beq i.size 1 && (match P.underlying t with
    | some .bool => true
    | some (.int _) => true
    | some .string => true
    | _ => false)
  | none => false
def okBl (P : Program) (t : TypeId) : Bool := match P.underlying t with
  | some .bool => true
  | _ => false
def okIk (P : Program) (x : TypeId × IntKind) : Bool := match P.underlying x.1 with
  | some (.int k) => decide (k = x.2)
  | _ => false
def okSt (P : Program) (t : TypeId) : Bool := match P.underlying t with
  | some .string => true
  | _ => false
def okFn (fn : Func) : Bool := fn.body.isNone || !(fn.name == "runtime.NumGoroutine")
def isAggT : Option TypeDesc → Bool
  | some (.struct _) => true
  | some (.array _ _) => true
  | none => true
  | _ => false
def okOne (P : Program) (t : TypeId) : Bool := !isAggT (P.underlying t) && (match P.info? t with
  | some i => Nat.beq i.size 1
  | none => false)
def okPz : Pz → Value → Bool
  | .sc y, x => okZero (some x) y
  | .sl, .slice none 0 0 => true
  | .fn, _ => true
  | _, _ => false
def okPzs : List Pz → List Value → Bool
  | [], [] => true
  | z :: zs, x :: xs => okPz z x && okPzs zs xs
  | _, _ => false
def okAl (P : Program) (x : TypeId × List Pz) : Bool := match P.info? x.1 with
  | some i => match i.zero with
    | some v => okPzs x.2 v.cells.toList
    | none => false
  | none => false
def okFds (P : Program) : Nat → List Field → Bool
  | _, [] => true
  | n, f :: r => Nat.beq f.offset n && ((match P.info? f.type with
    | some i => Nat.beq i.size 1
    | none => false) && okFds P (n + 1) r)
def okFd (P : Program) (x : TypeId × Nat) : Bool := match P.underlying x.1 with
  | some (.struct fs) => Nat.beq fs.toList.length x.2 && okFds P 0 fs.toList
  | _ => false
def okLl (P : Program) (x : TypeId × TypeId) : Bool :=
  match P.underlying x.1, P.info? x.2 with
  | some (.slice e), some i => Nat.beq e x.2 && (Nat.beq i.size 1 && (match i.zero with
    | some (.slice none 0 0) => true
    | _ => false))
  | _, _ => false
def okEnv (P : Program) (E : Env) : Bool :=
  E.sl.all (okSl P) && (E.gr.all (okGr P) && (E.sc.all (okSc P) && (E.bl.all (okBl P) && (E.ik.all (okIk P) && (E.st.all (okSt P) && (E.one.all (okOne P) && (E.al.all (okAl P) && (E.fd.all (okFd P) && (E.ll.all (okLl P) && (P.funcs.toList.all okFn && P.follows .mixedOrders))))))))))
theorem look_mem {α : Type} : ∀ {l : List (TypeId × α)} {t : TypeId} {x : α}, look l t = some x → (t, x) ∈ l
  | [], _, _, h => by cases h
  | (u, y) :: r, t, x, h => by
    simp only [look] at h
    split at h
    · rename_i hb
      simp only [Option.some.injEq] at h
      have : u = t := Nat.eq_of_beq_eq_true hb
      subst this
      subst h
      exact List.mem_cons_self
    · exact List.mem_cons_of_mem _ (look_mem h)
theorem isIn_mem : ∀ {l : List TypeId} {t : TypeId}, isIn l t = true → t ∈ l
  | [], _, h => by cases h
  | v :: r, t, h => by
    simp only [isIn] at h
    split at h
    · rename_i hb
      have : v = t := Nat.eq_of_beq_eq_true hb
      subst this
      exact List.mem_cons_self
    · exact List.mem_cons_of_mem _ (isIn_mem h)
theorem okZero_spec {z : Option Value} {y : Sc} (h : okZero z y = true) : z = some y.val := by
  unfold okZero at h
  split at h
  · simp only [Bool.and_eq_true, decide_eq_true_eq] at h
    obtain ⟨rfl, rfl⟩ := h
    rfl
  · simp only [decide_eq_true_eq] at h
    subst h
    rfl
  · simp only [decide_eq_true_eq] at h
    subst h
    rfl
  · rfl
  · cases h
theorem okGr_spec {P : Program} {t s : TypeId} (h : okGr P (t, s) = true) : ∃ f i j z, P.underlying t = some (.struct #[f]) ∧ f.offset = 0 ∧ f.type = s ∧ P.info? f.type = some i ∧ i.size = 1 ∧ P.info? t = some j ∧ j.size = 1 ∧ j.zero = some (.agg #[z]) ∧ ∃ e, P.underlying s = some (.slice e) := by
  unfold okGr at h
  split at h
  · rename_i fs j e h1 h2 h3
    split at h
    · rename_i f hf
      simp only [Bool.and_eq_true] at h
      obtain ⟨h4, h5, h6, h7, h8⟩ := h
      have hfs : fs = #[f] := Array.toList_inj.1 hf
      subst hfs
      split at h7
      · rename_i i hi
        split at h8
        · rename_i a ha
          have hsz : a.size = 1 := Nat.eq_of_beq_eq_true h8
          obtain ⟨l⟩ := a
          match l, hsz with
          | [z], _ => exact ⟨f, i, j, z, h1, Nat.eq_of_beq_eq_true h4, Nat.eq_of_beq_eq_true h5, hi, Nat.eq_of_beq_eq_true h7, h2, Nat.eq_of_beq_eq_true h6, ha, e, h3⟩
        · cases h8
      · cases h7
    · cases h
  · cases h
theorem okPzs_spec : ∀ {zs : List Pz} {xs : List Value}, okPzs zs xs = true → xs.length = zs.length ∧ ∀ (j : Nat) z x, zs[j]? = some z → xs[j]? = some x → (match z with | .sc y => x = y.val | .sl => x = .slice none 0 0 | .fn => True)
  | [], [], _ => ⟨rfl, fun j z x h => by simp at h⟩
  | [], _ :: _, h => by cases h
  | _ :: _, [], h => by cases h
  | z :: zs, x :: xs, h => by
    simp only [okPzs, Bool.and_eq_true] at h
    obtain ⟨h1, h2⟩ := h
    obtain ⟨g1, g2⟩ := okPzs_spec h2
    refine ⟨by simp [g1], fun j z' x' hz hx => ?_⟩
    cases j with
    | zero =>
      simp only [List.getElem?_cons_zero, Option.some.injEq] at hz hx
      subst hz hx
      unfold okPz at h1
      split at h1
      · have := okZero_spec h1; injection this
      · rfl
      · trivial
      · cases h1
    | succ j => exact g2 j z' x' (by simpa using hz) (by simpa using hx)
theorem okFds_spec {P : Program} : ∀ {n : Nat} {l : List Field}, okFds P n l = true → ∀ (f : Nat) x, l[f]? = some x → x.offset = n + f ∧ ∃ i, P.info? x.type = some i ∧ i.size = 1
  | n, [], _, f, x, h => by simp at h
  | n, y :: r, h, f, x, hx => by
    simp only [okFds, Bool.and_eq_true] at h
    obtain ⟨h1, h2, h3⟩ := h
    cases f with
    | zero =>
      simp only [List.getElem?_cons_zero, Option.some.injEq] at hx
      subst hx
      refine ⟨Nat.eq_of_beq_eq_true h1, ?_⟩
      split at h2
      · rename_i i hi; exact ⟨i, hi, Nat.eq_of_beq_eq_true h2⟩
      · cases h2
    | succ f =>
      obtain ⟨g1, g2⟩ := okFds_spec h3 f x (by simpa using hx)
      exact ⟨by omega, g2⟩
theorem okEnv_spec {P : Program} {E : Env} (h : okEnv P E = true) : EnvOk P E := by
  simp only [okEnv, Bool.and_eq_true, List.all_eq_true] at h
  obtain ⟨h1, h2, h3, h4, h5, h6, q1, q2, q3, q4, h7, h8⟩ := h
  refine ⟨?_, ?_, ?_, ?_, ?_, ?_, ?_, ?_, ?_, ?_, ?_, ?_, h8⟩
  · intro t e z hl
    have := h1 _ (look_mem hl)
    unfold okSl at this
    split at this
    · rename_i e' i h9 h10
      simp only [Bool.and_eq_true] at this
      obtain ⟨_, h11, h12, h13, h14, h15⟩ := this
      have he : e' = unF e := Nat.eq_of_beq_eq_true h11
      subst he
      exact ⟨⟨h9, i, h10, Nat.eq_of_beq_eq_true h12, Nat.le_of_ble_eq_true h13, okZero_spec h14⟩, h15⟩
    · cases this
  · intro t e z hl
    have := h1 _ (look_mem hl)
    unfold okSl at this
    split at this
    · simp only [Bool.and_eq_true] at this
      have h9 := this.1
      split at h9
      · rename_i j hj; exact ⟨j, hj, Nat.eq_of_beq_eq_true h9⟩
      · cases h9
    · cases this
  · intro t s hl
    obtain ⟨f, i, j, z, a1, a2, a3, a4, a5, a6, a7, a8, e, a9⟩ := okGr_spec (h2 _ (look_mem hl))
    exact ⟨f, i, j, a1, a2, a4, a5, a6, a7, ⟨by rw [a3], e, a9⟩, z, a8⟩
  · intro t hl
    have := h3 _ (isIn_mem hl)
    unfold okSc at this
    split at this
    · rename_i i hi
      simp only [Bool.and_eq_true] at this
      obtain ⟨h9, h10⟩ := this
      refine ⟨?_, i, hi, Nat.eq_of_beq_eq_true h9⟩
      split at h10
      · rename_i hq; exact .inl hq
      · rename_i k hq; exact .inr (.inl ⟨k, hq⟩)
      · rename_i hq; exact .inr (.inr hq)
      · cases h10
    · cases this
  · intro t hl
    have := h4 _ (isIn_mem hl)
    unfold okBl at this
    split at this
    · assumption
    · cases this
  · intro t k hl
    have := h5 _ (look_mem hl)
    unfold okIk at this
    split at this
    · rename_i k' hq
      simp only [decide_eq_true_eq] at this
      subst this
      exact hq
    · cases this
  · intro t hl
    have := h6 _ (isIn_mem hl)
    unfold okSt at this
    split at this
    · assumption
    · cases this
  · intro t hl
    have := q1 _ (isIn_mem hl)
    unfold okOne at this
    simp only [Bool.and_eq_true, Bool.not_eq_true'] at this
    obtain ⟨g1, g2⟩ := this
    constructor
    · cases hu : P.underlying t with
      | none => rw [hu] at g1; cases g1
      | some y =>
        rw [hu] at g1
        refine ⟨y, rfl, fun f hf => ?_, fun n e hf => ?_⟩
        · subst hf; cases g1
        · subst hf; cases g1
    · split at g2
      · rename_i i hi; exact ⟨i, hi, Nat.eq_of_beq_eq_true g2⟩
      · cases g2
  · intro t zs hl
    have := q2 _ (look_mem hl)
    unfold okAl at this
    split at this
    · rename_i i hi
      split at this
      · rename_i v hv
        obtain ⟨g1, g2⟩ := okPzs_spec this
        exact ⟨i, v, hi, hv, g1, g2⟩
      · cases this
    · cases this
  · intro t n hl
    have := q3 _ (look_mem hl)
    unfold okFd at this
    split at this
    · rename_i fs hfs
      simp only [Bool.and_eq_true] at this
      obtain ⟨g1, g2⟩ := this
      refine ⟨fs, hfs, by have := Nat.eq_of_beq_eq_true g1; simpa using this, fun f x hx => ?_⟩
      have := okFds_spec g2 f x (by simpa using hx)
      simpa using this
    · cases this
  · intro t e hl
    have := q4 _ (look_mem hl)
    unfold okLl at this
    split at this
    · rename_i e' i h9 h10
      simp only [Bool.and_eq_true] at this
      obtain ⟨h11, h12, h13⟩ := this
      have he : e' = e := Nat.eq_of_beq_eq_true h11
      subst he
      refine ⟨h9, i, h10, Nat.eq_of_beq_eq_true h12, ?_⟩
      split at h13
      · assumption
      · cases h13
    · cases this
  · intro f fn hf hb
    have := h7 fn (by have := Array.mem_of_getElem? hf; exact Array.mem_toList_iff.2 this)
    unfold okFn at this
    cases hn : (fn.name == "runtime.NumGoroutine") with
    | false => rfl
    | true =>
      rw [hn] at this
      cases hbb : fn.body with
      | none => rw [hbb] at hb; cases hb
      | some c => rw [hbb] at this; simp at this
end Go.Proofs.YtlnhommmmajllaaGreat.Ev
