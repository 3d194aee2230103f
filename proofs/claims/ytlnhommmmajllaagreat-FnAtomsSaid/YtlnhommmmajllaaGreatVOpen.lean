/-
  VOpen: a law's arguments, as the evaluator takes them.
-/
import Derived.Test.YtlnhommmmajllaaGreatVGen
import Derived.ProofKit
import Derived.OpenShut
import Derived.ShutString
import Derived.ChangeOld
import Derived.Below
namespace Go.Proofs.YtlnhommmmajllaaGreat
open Go Ev Go.RowKit
set_option linter.unusedVariables false
open Go.ChangeShapes Go.WideShapes Go.ChangeAt
section
variable {H : Type} {enc : TypeId × Value → H} {P : Program} {W : World}
def memAll (W : World) : Mem := { tm := fun _ => undef, loc := fun _ => none, ow := fun _ => none, fo := fun _ => True, fn := fun b => W.heap.size ≤ b }
theorem core_all (W : World) : Core [] (memAll W) W := ⟨fun t => trivial, fun k ad h => (nomatch h), fun b q h => (nomatch h), fun _ _ => trivial⟩
theorem isS_map {k : IntKind} {L : List Int} {j : Nat} {x : Sc} (h : (L.map (Sc.n k))[j]? = some x) : isS x = true := by
  rw [List.getElem?_map, Option.map_eq_some_iff] at h
  obtain ⟨y, _, rfl⟩ := h
  rfl
def bytesL (L : List Int) : List Sc := L.map (Sc.n .u8)
theorem open_bytes {T e : TypeId} (hT : P.underlying T = some (.slice e)) (he : P.underlying e = some (.int .u8)) (hc : P.cellsOf e = 1) {r : Reach} {b0 : Nat} {v : Value} {d : DataW H} {p : List MemPlace} (hv : Value.okWide P W r b0 T v)
    (h : DataW.Trod enc P W 0 (fun _ => true) true T v d p) : ∃ L : List Int, L.length ≤ maxLen ∧ GP (memAll W) W [] (.sl (bytesL L)) v := by
  obtain ⟨a0, l0, c0, rfl⟩ := okWide_slice hT hv
  obtain ⟨n, h⟩ := h
  have h : DataW.trod enc P W 0 (fun _ => true) true n T [.slice a0 l0 c0] = some (d, p) := by simpa [Value.cells] using h
  rcases open_ints hT he hc h with ⟨hcs, _⟩ | ⟨a, l, c, zs, hcs, _, hl, hm, hz, _, hcell, hwz⟩
  · simp only [List.cons.injEq, and_true] at hcs
    rw [hcs]
    exact ⟨[], by simp, none, 0, rfl, Nat.le_refl _, .inl rfl⟩
  · simp only [List.cons.injEq, and_true] at hcs
    rw [hcs]
    simp only [if_true] at hz
    have hlen : (bytesL (zs.take l)).length = l := by simp [bytesL]; omega
    refine ⟨zs.take l, by simp; omega, some a, c, by rw [hlen], by rw [hlen]; exact hl, .inr ⟨a, rfl, ⟨trivial, rfl⟩, fun j x hj => ⟨isS_map hj, ?_⟩⟩⟩
    have hjl : j < l := by
      have := (List.getElem?_eq_some_iff.1 hj).1
      rw [hlen] at this
      exact this
    rw [hcell j (by omega)]
    unfold bytesL at hj
    rw [List.getElem?_map, List.getElem?_take, if_pos hjl, List.getElem?_eq_getElem (by omega)] at hj
    simp only [Option.map_some, Option.some.injEq] at hj
    subst hj
    simp [List.getD, List.getElem?_eq_getElem (show j < zs.length by omega), Sc.val]
structure Arg (W : World) (a : AV) (v : Value) : Prop where
  val : GS (memAll W) W [] 0 a v
  own : ∀ e L, a ≠ .own e L
def Args (W : World) (as : List AV) (vs : List Value) : Prop := vs.length = as.length ∧ ∀ (i : Nat) a x, as[i]? = some a → vs[i]? = some x → Arg W a x
theorem args_nil : Args W [] [] := ⟨rfl, fun i v x h => by simp at h⟩
theorem args_cons {y : Pv} {as : List AV} {v : Value} {vs : List Value} (hg : GP (memAll W) W [] y v) (h : Args W as vs) : Args W (.p y :: as) (v :: vs) := by
  refine ⟨by simp [h.1], fun i b x hb hx => ?_⟩
  cases i with
  | zero =>
    simp only [List.getElem?_cons_zero, Option.some.injEq] at hb hx
    subst hb hx
    exact ⟨hg, by simp⟩
  | succ i => exact h.2 i b x (by simpa using hb) (by simpa using hx)
theorem pre_of {as : List AV} {vs : List Value} (h : Args W as vs) : Pre W (memAll W) [] as vs :=
  ⟨core_all W, fun b hb => hb, fun k ad hk => (nomatch hk), h.1, fun i v x hv hx => ⟨(h.2 i v x hv hx).val, (h.2 i v x hv hx).own⟩⟩
theorem law_true {f : FuncId} {args out : List AV} {vs : List Value} (h : CS P f args [] [.p (.sc (.b true))] out) (ha : Args W args vs) : Calls P f vs.toArray W fun e w' => e = .returned (.bool true) ∧ Below W.heap.size W w' := by
  refine ((h.old rfl).2 W (memAll W) vs (pre_of ha)).mono fun e w' hp => ?_
  obtain ⟨xs, M', he, hpost⟩ := hp
  have hlen := hpost.len
  match xs, hlen with
  | [x], _ =>
    have hx : GS M' w' out 0 (.p (.sc (.b true))) x := (hpost.res 0 _ _ rfl rfl).1
    have : x = .bool true := hx
    subst this
    refine ⟨he, ?_⟩
    have hk := hpost.kept
    exact ⟨hk.os, hk.tape, hk.output, hk.size, fun b hb => hk.block b hb fun ⟨q, hq⟩ => by cases hq⟩
end
end Go.Proofs.YtlnhommmmajllaaGreat
