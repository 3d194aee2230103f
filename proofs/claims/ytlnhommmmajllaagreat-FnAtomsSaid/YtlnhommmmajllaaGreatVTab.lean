/-
  VTab: tables of calls and loops; small rules on what comes up.
-/
import Derived.Test.YtlnhommmmajllaaGreatVEnv
set_option linter.unusedVariables false
namespace Go.Proofs.YtlnhommmmajllaaGreat.Ev
open Go Go.RowKit
def findLoop (id : Nat) : List (Nat × Code) → Code
  | [] => .skip
  | (i, b) :: r => match Nat.beq i id with
    | true => b
    | false => findLoop id r
def bodyOf (fn : Func) (id : Nat) : Code := match fn.body with
  | some c => findLoop id (loopsOf 0 c)
  | none => .skip
def nodupN : List Nat → Bool
  | [] => true
  | x :: r => !(r.any (Nat.beq x)) && nodupN r
def loopsOnce (fn : Func) : Bool := match fn.body with
  | some c => nodupN ((loopsOf 0 c).map (·.1))
  | none => false
theorem findLoop_mem : ∀ {l : List (Nat × Code)} {id : Nat} {b : Code}, nodupN (l.map (·.1)) = true → (id, b) ∈ l → findLoop id l = b
  | (i, c) :: r, id, b, hn, hm => by
    simp only [List.map_cons, nodupN, Bool.and_eq_true, Bool.not_eq_true', List.any_eq_false] at hn
    simp only [findLoop]
    split
    · rename_i hb
      have hi : i = id := Nat.eq_of_beq_eq_true hb
      subst hi
      rcases List.mem_cons.1 hm with h | h
      · injection h with _ h; exact h.symm
      · have := hn.1 i (List.mem_map.2 ⟨(i, b), h, rfl⟩)
        simp at this
    · rename_i hb
      rcases List.mem_cons.1 hm with h | h
      · injection h with h _; subst h; simp at hb
      · exact findLoop_mem hn.2 h
theorem loopsOf_sub : ∀ (c : Code) (cur : Nat) {id : Nat} {b : Code}, (id, b) ∈ loopsOf cur c → ∀ x ∈ loopsOf id b, x ∈ loopsOf cur c
  | .seq a b, cur, id, d, h, x, hx => by
    simp only [loopsOf, List.mem_append] at h ⊢
    rcases h with h | h | h
    · exact .inl (loopsOf_sub a cur h x hx)
    · unfold tailsOf at h
      split at h
      · simp only [List.mem_singleton, Prod.mk.injEq] at h
        obtain ⟨rfl, rfl⟩ := h
        exact .inr (.inr hx)
      · cases h
    · exact .inr (.inr (loopsOf_sub b cur h x hx))
  | .cond _ a b, cur, id, d, h, x, hx => by
    simp only [loopsOf, List.mem_append] at h ⊢
    rcases h with h | h
    · exact .inl (loopsOf_sub a cur h x hx)
    · exact .inr (loopsOf_sub b cur h x hx)
  | .block i b, cur, id, d, h, x, hx => loopsOf_sub b i h x hx
  | .loop b, cur, id, d, h, x, hx => by
    simp only [loopsOf, List.mem_cons] at h ⊢
    rcases h with h | h
    · injection h with h1 h2
      subst h1 h2
      exact .inr hx
    · exact .inr (loopsOf_sub b cur h x hx)
  | .skip, _, _, _, h, _, _ => by simp [loopsOf] at h
  | .region _ _ false, _, _, _, h, _, _ => by simp [loopsOf] at h
  | .region i ops true, _, id, b, h, x, hx => by
    simp only [loopsOf, List.mem_singleton, Prod.mk.injEq] at h
    obtain ⟨rfl, rfl⟩ := h
    exact hx
  | .exit _, _, _, _, h, _, _ => by simp [loopsOf] at h
  | .ret, _, _, _, h, _, _ => by simp [loopsOf] at h
  | .rangeFunc _ _ _ _, _, _, _, h, _, _ => by simp [loopsOf] at h
  | .scope _, _, _, _, h, _, _ => by simp [loopsOf] at h
  | .label _, _, _, _, h, _, _ => by simp [loopsOf] at h
  | .goto _, _, _, _, h, _, _ => by simp [loopsOf] at h
  | .refuse _, _, _, _, h, _, _ => by simp [loopsOf] at h
abbrev LTab := Nat → List AV → Option (Bool × Bool × (X × List AV) × (X × List AV))
section
variable {P : Program} {E : Env} {H : Hints} {F : Fi}
def LTrue (P : Program) (F : Fi) (fn : Func) (T : LTab) : Prop := ∀ id σ p r r', T id σ = some (true, p, r, r') → LS P F (bodyOf fn id) σ (if p then r else r')
def asL (T : LTab) : Looping := fun id _ σ => T id σ
def noL : LTab := fun _ _ => none
theorem noL_true {fn : Func} : LTrue P F fn noL := fun _ _ _ _ _ h => by cases h
def noC : Calling := fun _ _ _ => none
theorem noC_true : CallOk P noC := fun _ _ _ _ _ h => by cases h
theorem LTrue.all {fn : Func} {T : LTab} (h : LTrue P F fn T) (hn : loopsOnce fn = true) : ∀ c, fn.body = some c → LoopOk P F (loopsOf 0 c) (asL T) := by
  intro c hc id b σ p r r' hm ht
  have : bodyOf fn id = b := by
    unfold bodyOf
    unfold loopsOnce at hn
    simp only [hc] at hn ⊢
    exact findLoop_mem hn hm
  rw [← this]
  exact h id σ p r r' ht
theorem findLoop_in : ∀ {l : List (Nat × Code)} {id : Nat} {x : Nat × Code}, x ∈ loopsOf id (findLoop id l) → (id, findLoop id l) ∈ l
  | [], id, x, h => by simp [findLoop, loopsOf] at h
  | (i, c) :: r, id, x, h => by
    simp only [findLoop] at h ⊢
    split at h
    · rename_i hb
      have hi : i = id := Nat.eq_of_beq_eq_true hb
      subst hi
      simp only [List.mem_cons, true_or]
    · rename_i hb
      exact List.mem_cons_of_mem _ (findLoop_in h)
theorem LTrue.inner {fn : Func} {T : LTab} (h : LTrue P F fn T) (hn : loopsOnce fn = true) (id : Nat) : LoopOk P F (loopsOf id (bodyOf fn id)) (asL T) := by
  intro id' b σ p r r' hm ht
  cases hc : fn.body with
  | none => unfold loopsOnce at hn; rw [hc] at hn; cases hn
  | some c =>
    refine h.all hn c hc id' b σ p r r' ?_ ht
    have e : bodyOf fn id = findLoop id (loopsOf 0 c) := by unfold bodyOf; rw [hc]
    rw [e] at hm
    exact loopsOf_sub c 0 (findLoop_in hm) _ hm
def done (kl : List Nat × List Nat × List Nat) (x : X) (σ : List AV) : Option (X × List AV) := match x with
  | .norm => some (.norm, clear kl.1 σ)
  | .out i => some (.out i, clear kl.2.1 σ)
  | .ret => some (.ret, clear kl.2.2 σ)
  | .rest => none
theorem LS_again {fn : Func} {id : Nat} {M : Calling} {T : LTab} {σ σ' : List AV} {y : X × List AV} (hE : EnvOk P E) (hM : CallOk P M) (hL : LTrue P F fn T) (hn : loopsOnce fn = true)
    (h : EC E M H F (asL T) id (bodyOf fn id) σ (done (klOf F id)) = some (.norm, σ')) (hx : LS P F (bodyOf fn id) σ' y) (hy : y.1 ≠ .norm) (hz : y.1 ≠ .rest) : LS P F (bodyOf fn id) σ y := by
  obtain ⟨n, hx⟩ := hx.loop hy hz
  refine LS.ofLoop ⟨n + 1, fun Y w0 Mp M1 a w Q hst hQ => ?_⟩ hy hz
  rw [rounds_succ]
  refine EC_sound hE hM (bodyOf fn id) id (hL.inner hn id) hst h fun M' x' σ1 a' w' hk hst' => ?_
  cases x' with
  | norm =>
    simp only [done, Option.some.injEq, Prod.mk.injEq, true_and] at hk
    subst hk
    obtain ⟨M2, h2⟩ := hst'.clear (klOf F id).1
    exact hx Y w0 Mp M2 a' w' Q h2 hQ
  | ret => simp [done] at hk
  | out i => simp [done] at hk
  | rest => simp [done] at hk
theorem LS_end {fn : Func} {id : Nat} {M : Calling} {T : LTab} {σ σ' : List AV} {x : X} (hE : EnvOk P E) (hM : CallOk P M) (hL : LTrue P F fn T) (hn : loopsOnce fn = true)
    (h : EC E M H F (asL T) id (bodyOf fn id) σ (done (klOf F id)) = some (x, σ')) (hx : x ≠ .norm) (hz : x ≠ .rest) : LS P F (bodyOf fn id) σ (x, σ') := by
  refine LS.ofLoop ⟨1, fun Y w0 Mp M1 a w Q hst hQ => ?_⟩ hx hz
  rw [rounds_succ]
  refine EC_sound hE hM (bodyOf fn id) id (hL.inner hn id) hst h fun M' x' σ1 a' w' hk hst' => ?_
  cases x' with
  | norm =>
    simp only [done, Option.some.injEq, Prod.mk.injEq] at hk
    exact absurd hk.1.symm hx
  | ret =>
    simp only [done, Option.some.injEq, Prod.mk.injEq] at hk
    obtain ⟨rfl, rfl⟩ := hk
    obtain ⟨M2, h2⟩ := hst'.clear (klOf F id).2.2
    exact hQ M2 a' w' h2
  | out i =>
    simp only [done, Option.some.injEq, Prod.mk.injEq] at hk
    obtain ⟨rfl, rfl⟩ := hk
    obtain ⟨M2, h2⟩ := hst'.clear (klOf F id).2.1
    exact hQ M2 a' w' h2
  | rest => simp [done] at hk
end
theorem br_true {α : Type} (x y : α) : br true x y = x := rfl
theorem br_false {α : Type} (x y : α) : br false x y = y := rfl
theorem ints_nums {A : List Sc} (h : allI A = true) : ints (nums A) = A := by
  unfold allI at h
  unfold ints nums
  rw [List.map_map]
  conv => rhs; rw [← List.map_id A]
  refine List.map_congr_left fun y hy => ?_
  rw [List.all_eq_true] at h
  have := h y hy
  cases y <;> simp_all [sameKind, numOf]
theorem nums_ints (L : List Int) : nums (ints L) = L := by simp [nums, ints, Function.comp_def, numOf]
theorem ints_length (L : List Int) : (ints L).length = L.length := by simp [ints]
theorem ints_snoc (L : List Int) (x : Int) : ints L ++ [.n .i64 x] = ints (L ++ [x]) := by simp [ints]
theorem ints_append (L M : List Int) : ints L ++ ints M = ints (L ++ M) := by simp [ints]
theorem ints_set (L : List Int) (i : Nat) (x : Int) : (ints L).set i (.n .i64 x) = ints (L.set i x) := by simp [ints, List.map_set]
theorem atI_ints (L : List Int) (i : Int) : atI (ints L) i = L.getD i.toNat 0 := by
  unfold atI ints
  simp only [List.getD, List.getElem?_map]
  cases L[i.toNat]? <;> rfl
theorem okAt_ints (L : List Int) (i : Int) : okAt (ints L) i = inRange i L.length := by
  unfold okAt
  have : sameKind (.n .i64 0) ((ints L).getD i.toNat (.n .i64 0)) = true := by
    simp only [ints, List.getD, List.getElem?_map]
    cases L[i.toNat]? <;> rfl
  rw [this, ints_length, Bool.and_true]
theorem inRange_nat {k n : Nat} : inRange (k : Int) n = decide (k < n) := by
  unfold inRange
  simp
theorem drop_facts {α : Type} {L : List α} {k : Nat} {x : α} {r : List α} (h : L.drop k = x :: r) (d : α) : k < L.length ∧ L.getD k d = x ∧ L.drop (k + 1) = r := by
  have hk : k < L.length := by
    rcases Nat.lt_or_ge k L.length with hl | hl
    · exact hl
    · rw [List.drop_eq_nil_of_le hl] at h; cases h
  rw [List.drop_eq_getElem_cons hk] at h
  injection h with h1 h2
  exact ⟨hk, by simp [List.getD, hk, h1], h2⟩
theorem w64_in {x : Int} (h0 : -9223372036854775808 ≤ x) (h1 : x ≤ 9223372036854775807) : w64 x = x := by
  unfold w64
  rw [IntKind.wrap_i64]
  omega
end Go.Proofs.YtlnhommmmajllaaGreat.Ev
