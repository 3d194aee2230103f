/-
  VOpen: a law's arguments, as the evaluator takes them.
-/
import Derived.Test.YtdocbpiocinllaaVGen
import Derived.ProofKit
import Derived.OpenShut
import Derived.ShutString
import Derived.ChangeOld
import Derived.Below
namespace Go.Proofs.Ytdocbpiocinllaa
open Go Ev Go.RowKit
set_option linter.unusedVariables false
open Go.ChangeShapes Go.WideShapes Go.ChangeAt

section
variable {H : Type} {enc : TypeId × Value → H} {P : Program} {W : World}
/-- The memory when nothing has been lent: what is there may be looked at. -/
def memAll (W : World) : Mem := { tm := fun _ => undef, loc := fun _ => none, ow := fun _ => none, fo := fun _ => True, fn := fun b => W.heap.size ≤ b }
theorem core_all (W : World) : Core [] (memAll W) W := ⟨fun t => trivial, fun k ad h => (nomatch h), fun b q h => (nomatch h), fun _ _ => trivial⟩
theorem in64_of_wf {x : Int} (h : (Lit.int .i64 x).wf = true) : In64 x := by
  simp [Lit.wf, IntKind.min, IntKind.max, IntKind.signed, IntKind.bits] at h
  exact ⟨by omega, by omega⟩

theorem isS_map {k : IntKind} {L : List Int} {j : Nat} {x : Sc} (h : (L.map (Sc.n k))[j]? = some x) : isS x = true := by
  rw [List.getElem?_map, Option.map_eq_some_iff] at h
  obtain ⟨y, _, rfl⟩ := h
  rfl
theorem open_sl {T e : TypeId} (hT : P.underlying T = some (.slice e)) (he : P.underlying e = some (.int .i64)) (hc : P.cellsOf e = 1) {v : Value} {n : Nat} {x : DataW H × List MemPlace} (hv : ∃ a l c, v = .slice a l c)
    (h : DataW.trod enc P W 0 (fun _ => true) true n T [v] = some x) : ∃ L, All64 L ∧ GP (memAll W) W [] (.sl (ints L)) v := by
  rcases open_ints hT he hc h with ⟨hcs, _⟩ | ⟨a, l, c, zs, hcs, _, hl, hm, hz, _, hcell, hwz⟩
  · simp only [List.cons.injEq, and_true] at hcs
    subst hcs
    exact ⟨[], ⟨(fun x hx => by cases hx), by simp⟩, none, 0, rfl, Nat.le_refl _, .inl rfl⟩
  · simp only [List.cons.injEq, and_true] at hcs
    subst hcs
    simp only [if_true] at hz
    have hlen : (ints (zs.take l)).length = l := by simp [ints]; omega
    refine ⟨zs.take l, ⟨fun x hx => in64_of_wf (hwz x (List.mem_of_mem_take hx)), by unfold maxLen at hm; simp; omega⟩, some a, c, by rw [hlen], by rw [hlen]; exact hl, .inr ⟨a, rfl, ⟨trivial, rfl⟩, fun j x hj => ⟨isS_map hj, ?_⟩⟩⟩
    have hjl : j < l := by
      have := (List.getElem?_eq_some_iff.1 hj).1
      rw [hlen] at this
      exact this
    rw [hcell j (by omega)]
    unfold ints at hj
    rw [List.getElem?_map, List.getElem?_take, if_pos hjl, List.getElem?_eq_getElem (by omega)] at hj
    simp only [Option.map_some, Option.some.injEq] at hj
    subst hj
    simp [List.getD, List.getElem?_eq_getElem (show j < zs.length by omega), Sc.val]

theorem open_slice {T e : TypeId} (hT : P.underlying T = some (.slice e)) (he : P.underlying e = some (.int .i64)) (hc : P.cellsOf e = 1) {r : Reach} {b0 : Nat} {v : Value} {d : DataW H} {p : List MemPlace} (hv : Value.okWide P W r b0 T v)
    (h : DataW.Trod enc P W 0 (fun _ => true) true T v d p) : ∃ L, All64 L ∧ GP (memAll W) W [] (.sl (ints L)) v := by
  obtain ⟨a, l, c, rfl⟩ := okWide_slice hT hv
  obtain ⟨n, h⟩ := h
  exact open_sl hT he hc ⟨a, l, c, rfl⟩ (by simpa [Value.cells] using h)

/-- A slice of bytes. -/
def bytesL (L : List Int) : List Sc := L.map (Sc.n .u8)
theorem open_bytes {T e : TypeId} (hT : P.underlying T = some (.slice e)) (he : P.underlying e = some (.int .u8)) (hc : P.cellsOf e = 1) {r : Reach} {b0 : Nat} {v : Value} {d : DataW H} {p : List MemPlace} (hv : Value.okWide P W r b0 T v)
    (h : DataW.Trod enc P W 0 (fun _ => true) true T v d p) : ∃ L : List Int, L.length ≤ maxLen ∧ GP (memAll W) W [] (.sl (bytesL L)) v := by
  obtain ⟨a0, l0, c0, rfl⟩ := okWide_slice hT hv
  obtain ⟨n, h⟩ := h
  have h : DataW.trod enc P W 0 (fun _ => true) true n T [.slice a0 l0 c0] = some (d, p) := by simpa [Value.cells] using h
  rcases open_ints hT he hc h with ⟨hcs, _⟩ | ⟨a, l, c, zs, hcs, _, hl, hm, hz, _, hcell, hwz⟩
  · simp only [List.cons.injEq, and_true] at hcs
    rw [hcs]
    exact ⟨[], by simp, none, 0, rfl, Nat.le_refl _, .inl rfl⟩
  · simp only [List.cons.injEq, and_true] at hcs
    rw [hcs]
    simp only [if_true] at hz
    have hlen : (bytesL (zs.take l)).length = l := by simp [bytesL]; omega
    refine ⟨zs.take l, by simp; omega, some a, c, by rw [hlen], by rw [hlen]; exact hl, .inr ⟨a, rfl, ⟨trivial, rfl⟩, fun j x hj => ⟨isS_map hj, ?_⟩⟩⟩
    have hjl : j < l := by
      have := (List.getElem?_eq_some_iff.1 hj).1
      rw [hlen] at this
      exact this
    rw [hcell j (by omega)]
    unfold bytesL at hj
    rw [List.getElem?_map, List.getElem?_take, if_pos hjl, List.getElem?_eq_getElem (by omega)] at hj
    simp only [Option.map_some, Option.some.injEq] at hj
    subst hj
    simp [List.getD, List.getElem?_eq_getElem (show j < zs.length by omega), Sc.val]
/-- The same, and each byte is 0 to 255. -/
theorem open_bytes2 {T e : TypeId} (hT : P.underlying T = some (.slice e)) (he : P.underlying e = some (.int .u8)) (hc : P.cellsOf e = 1) {r : Reach} {b0 : Nat} {v : Value} {d : DataW H} {p : List MemPlace} (hv : Value.okWide P W r b0 T v)
    (h : DataW.Trod enc P W 0 (fun _ => true) true T v d p) : ∃ L : List Int, (L.length ≤ maxLen ∧ ∀ x ∈ L, 0 ≤ x ∧ x ≤ 255) ∧ GP (memAll W) W [] (.sl (bytesL L)) v := by
  obtain ⟨a0, l0, c0, rfl⟩ := okWide_slice hT hv
  obtain ⟨n, h⟩ := h
  have h : DataW.trod enc P W 0 (fun _ => true) true n T [.slice a0 l0 c0] = some (d, p) := by simpa [Value.cells] using h
  rcases open_ints hT he hc h with ⟨hcs, _⟩ | ⟨a, l, c, zs, hcs, _, hl, hm, hz, _, hcell, hwz⟩
  · simp only [List.cons.injEq, and_true] at hcs
    rw [hcs]
    exact ⟨[], ⟨by simp, by simp⟩, none, 0, rfl, Nat.le_refl _, .inl rfl⟩
  · simp only [List.cons.injEq, and_true] at hcs
    rw [hcs]
    simp only [if_true] at hz
    have hlen : (bytesL (zs.take l)).length = l := by simp [bytesL]; omega
    have hby : ∀ x ∈ zs.take l, 0 ≤ x ∧ x ≤ 255 := fun x hx => by
      have h1 : (decide (IntKind.u8.min ≤ x) && decide (x ≤ IntKind.u8.max)) = true := hwz x (List.mem_of_mem_take hx)
      rw [Bool.and_eq_true, decide_eq_true_eq, decide_eq_true_eq] at h1
      exact h1
    refine ⟨zs.take l, ⟨by simp; omega, hby⟩, some a, c, by rw [hlen], by rw [hlen]; exact hl, .inr ⟨a, rfl, ⟨trivial, rfl⟩, fun j x hj => ⟨isS_map hj, ?_⟩⟩⟩
    have hjl : j < l := by
      have := (List.getElem?_eq_some_iff.1 hj).1
      rw [hlen] at this
      exact this
    rw [hcell j (by omega)]
    unfold bytesL at hj
    rw [List.getElem?_map, List.getElem?_take, if_pos hjl, List.getElem?_eq_getElem (by omega)] at hj
    simp only [Option.map_some, Option.some.injEq] at hj
    subst hj
    simp [List.getD, List.getElem?_eq_getElem (show j < zs.length by omega), Sc.val]

theorem open_group {T s e : TypeId} {f : Field} (hT : P.underlying T = some (.struct #[f])) (hf : f.offset = 0) (hc1 : P.cellsOf T = 1) (hcf : P.cellsOf f.type = 1) (hs : f.type = s) (hS : P.underlying s = some (.slice e)) (he : P.underlying e = some (.int .i64)) (hc : P.cellsOf e = 1)
    {r : Reach} {b0 : Nat} {v : Value} {d : DataW H} {p : List MemPlace} (hv : Value.okWide P W r b0 T v)
    (h : DataW.Trod enc P W 0 (fun _ => true) true T v d p) : ∃ L, All64 L ∧ GP (memAll W) W [] (.gr (ints L)) v := by
  obtain ⟨cs, rfl, hsz⟩ := okWide_struct hT hv
  obtain ⟨n, h⟩ := h
  obtain ⟨c0, rfl⟩ : ∃ c0, cs = #[c0] := by
    rw [hc1] at hsz
    match cs, hsz with
    | ⟨[c0]⟩, _ => exact ⟨c0, rfl⟩
  obtain ⟨y0, m, _, _, h0⟩ := trod_struct1 hT h
  simp only [Value.cells, hf, hcf, List.drop_zero] at h0
  have h0' : DataW.trod enc P W 0 (fun _ => true) true m s [c0] = some y0 := by rw [← hs]; simpa using h0
  have hvs : ∃ a l c, c0 = .slice a l c := by
    rcases open_ints hS he hc h0' with ⟨hcs, _⟩ | ⟨a, l, c, zs, hcs, _⟩
    · simp only [List.cons.injEq, and_true] at hcs
      exact ⟨_, _, _, hcs⟩
    · simp only [List.cons.injEq, and_true] at hcs
      exact ⟨_, _, _, hcs⟩
  obtain ⟨L, hL, A, c, h1, h2, h3⟩ := open_sl hS he hc hvs h0'
  exact ⟨L, hL, A, c, by rw [h1], h2, h3⟩

theorem open_i64 {T : TypeId} (hT : P.underlying T = some (.int .i64)) {r : Reach} {b0 : Nat} {v : Value} {d : DataW H} {p : List MemPlace} (hv : Value.okWide P W r b0 T v)
    (h : DataW.Trod enc P W 0 (fun _ => true) true T v d p) : ∃ x, In64 x ∧ GP (memAll W) W [] (.sc (.n .i64 x)) v := by
  obtain ⟨x, rfl, _, _, hw⟩ := open_int hT hv h
  exact ⟨x, in64_of_wf hw, rfl⟩

/-- Arguments that are only looked at. -/
structure Arg (W : World) (a : AV) (v : Value) : Prop where
  val : GS (memAll W) W [] 0 a v
  own : ∀ e L, a ≠ .own e L
def Args (W : World) (as : List AV) (vs : List Value) : Prop := vs.length = as.length ∧ ∀ (i : Nat) a x, as[i]? = some a → vs[i]? = some x → Arg W a x
theorem args_nil : Args W [] [] := ⟨rfl, fun i v x h => by simp at h⟩
theorem args_cons {y : Pv} {as : List AV} {v : Value} {vs : List Value} (hg : GP (memAll W) W [] y v) (h : Args W as vs) : Args W (.p y :: as) (v :: vs) := by
  refine ⟨by simp [h.1], fun i b x hb hx => ?_⟩
  cases i with
  | zero =>
    simp only [List.getElem?_cons_zero, Option.some.injEq] at hb hx
    subst hb hx
    exact ⟨hg, by simp⟩
  | succ i => exact h.2 i b x (by simpa using hb) (by simpa using hx)
theorem pre_of {as : List AV} {vs : List Value} (h : Args W as vs) : Pre W (memAll W) [] as vs :=
  ⟨core_all W, fun b hb => hb, fun k ad hk => (nomatch hk), h.1, fun i v x hv hx => ⟨(h.2 i v x hv hx).val, (h.2 i v x hv hx).own⟩⟩

/-- A law that is found to be true is true. -/
theorem law_true {f : FuncId} {args out : List AV} {vs : List Value} (h : CS P f args [] [.p (.sc (.b true))] out) (ha : Args W args vs) : Calls P f vs.toArray W fun e w' => e = .returned (.bool true) ∧ Below W.heap.size W w' := by
  refine ((h.old rfl).2 W (memAll W) vs (pre_of ha)).mono fun e w' hp => ?_
  obtain ⟨xs, M', he, hpost⟩ := hp
  have hlen := hpost.len
  match xs, hlen with
  | [x], _ =>
    have hx : GS M' w' out 0 (.p (.sc (.b true))) x := (hpost.res 0 _ _ rfl rfl).1
    have : x = .bool true := hx
    subst this
    refine ⟨he, ?_⟩
    have hk := hpost.kept
    exact ⟨hk.os, hk.tape, hk.output, hk.size, fun b hb => hk.block b hb fun ⟨q, hq⟩ => by cases hq⟩
end
end Go.Proofs.Ytdocbpiocinllaa
