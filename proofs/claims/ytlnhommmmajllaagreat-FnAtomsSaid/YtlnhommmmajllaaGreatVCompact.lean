/-
  VCompact: the library's Compact of a row of integers, as a call in plain data.
-/
import Derived.Test.YtlnhommmmajllaaGreatVSort
import Derived.Lib.SlicesCompact
set_option linter.unusedVariables false
namespace Go.Proofs.YtlnhommmmajllaaGreat.Ev
open Go Go.RowKit
def compactSc (L : List Sc) : Option (List Sc) := br (allI L && decide (L.length ≤ lim)) (some (ints (Lib.compact (nums L)))) none
theorem compact_len (zs : List Int) : (Lib.compact zs).length ≤ zs.length := by
  unfold Lib.compact Lib.compactUpTo
  rw [List.length_map]
  exact Nat.le_trans (List.length_filter_le _ _) (by simp)
theorem compact_CS {P : Program} {f : FuncId} {e : TypeId} (hf : ∃ fn, P.funcs[f]? = some fn ∧ fn.body.isSome = true)
    (c1 : ∀ (blk off cap : Nat) (zs : List Int) (w : World), Go.Sort.Holds (Value.int .i64) w blk off zs.toArray → zs.length ≤ 9223372036854775807 → zs.length ≤ cap →
      Calls P f #[.slice (some ⟨blk, off, none⟩) zs.length cap] w fun e w' => e = .returned (.slice (some ⟨blk, off, none⟩) (Lib.compact zs).length cap) ∧ ∃ q, w' = Go.Sort.putRow (Value.int .i64) (Go.Sort.ahead w q) blk off (Lib.compact zs ++ List.replicate (zs.length - (Lib.compact zs).length) 0).toArray)
    (c0 : ∀ (p : Option Addr) (cap : Nat) (w : World), Calls P f #[.slice p 0 cap] w fun e w' => e = .returned (.slice p 0 cap) ∧ w' = w) {L r : List Sc} (h : compactSc L = some r) (heN : isN e = false := by rfl) : CS P f [.p (.al 0)] [.own e L] [.p (.al 1)] [.u, .own e r] := by
  refine CS.of ⟨hf, ?_⟩
  intro w M vs pre
  unfold compactSc at h
  cases hc : (allI L && decide (L.length ≤ lim)) with
  | false => rw [hc] at h; cases h
  | true =>
  rw [hc] at h
  obtain rfl := Option.some.inj h
  rw [Bool.and_eq_true, decide_eq_true_eq] at hc
  obtain ⟨hI, hlim⟩ := hc
  have hL : ints (nums L) = L := ints_nums hI
  generalize nums L = zs at hL
  subst hL
  rw [ints_length] at hlim
  have hlen := pre.len
  obtain ⟨x, rfl⟩ : ∃ x, vs = [x] := by
    match vs, hlen with
    | [x], _ => exact ⟨x, rfl⟩
  obtain ⟨_, hx⟩ : rf [AV.own e (ints zs)] 0 = true ∧ x = M.tm 0 := (pre.arg 0 _ _ rfl rfl).1
  obtain ⟨hrow0, hown⟩ : Row w M.fz 0 e (M.tm 0) (ints zs) ∧ ∀ b, (M.tm 0).ownBlock = some b → M.ow b = some (.r 0 []) := (RowO.flat (isN_dp heN)).1 (pre.core.slot 0)
  have hrow := (hrow0.sc heN).1
  rw [ints_length, ints_vals] at hrow
  have hcl := compact_len zs
  generalize hz : Lib.compact zs = cs at hcl
  have fin : ∀ (X : Value) (w' : World), w.grownBy w' (M.tm 0).ownBlock → w'.ownsRow 0 e 1 X cs.length (cs.map (Value.int .i64)) → X.ownBlock = (M.tm 0).ownBlock → ∃ xs M', Ending.returned X = .returned (packV xs) ∧ Post w M [AV.own e (ints zs)].length w' M' [.u, .own e (ints cs)] [.p (.al 1)] xs := by
    intro X w' hg ho hb
    have hkeep : ∀ b, b < w.heap.size → (∀ p, M.ow b ≠ some (.r 0 p)) → w'.heap[b]? = w.heap[b]? := fun b hb' hn => hg.block b hb' fun e' => hn [] (hown b e'.symm)
    refine ⟨[X], { M with tm := fun t => if t = 1 then X else M.tm t, ow := renOw 0 1 M.ow }, rfl, ⟨fun t => ?_, fun k ad hl => ?_, fun b q hb' => ?_, pre.core.sub⟩, ?_, fun b q hb' => .inl (renOw_some hb'), rfl, fun _ h => h, rfl, fun k ad hl => ren_cells pre.core 0 1 k ad hl, fun k hk _ => if_neg (by simp at hk; omega), rfl, fun i v x hv hx => ?_⟩
    · match t with
      | 0 => exact trivial
      | 1 =>
        refine (RowO.flat (isN_dp heN)).2 ⟨Row.ofSc heN ?_ fun y hy => ?_, fun b hb' => renOw_s (hown b (hb ▸ hb'))⟩
        · rw [ints_length, ints_vals]
          exact ho
        · unfold ints at hy
          obtain ⟨q, _, rfl⟩ := List.mem_map.1 hy
          rfl
      | t + 2 => exact trivial
    · have hl : M.loc k = some ad := hl
      have hk1 : k < 1 := pre.loc k ad hl
      obtain ⟨q1, q2, q3, k0, n0, q4, q5⟩ := pre.core.cell k ad hl
      have hs := hkeep ad.block (cell_lt q1) fun p e' => by rw [e'] at q4; cases q4
      refine ⟨?_, (World.frozen?_of_block hs).trans q2, q3, k0, n0, renOw_c q4, q5⟩
      show _ = some (if k = 1 then X else M.tm k)
      rw [if_neg (by omega)]
      exact cell_same q1 hs
    · obtain ⟨q', hq'⟩ := renOw_some hb'
      exact ⟨Nat.lt_of_lt_of_le (pre.core.low b q' hq').1 hg.size, (pre.core.low b q' hq').2⟩
    · have hk := Kept.of_grown hg
      exact ⟨hk.os, hk.tape, hk.output, hk.size, fun b hb' hn => hk.block b hb' fun e' => hn ⟨_, hown b e'⟩⟩
    · match i with
      | 0 =>
        simp only [List.getElem?_cons_zero, Option.some.injEq] at hv hx
        subst hv hx
        exact ⟨⟨rfl, rfl⟩, by simp⟩
      | i + 1 => simp at hv
  rcases hrow.2 with ⟨h1, h2⟩ | ⟨g, cap, cur, h1, hb, h3, h4, h5, h6, h7⟩
  · have hz0 : zs = [] := List.eq_nil_of_length_eq_zero h2
    subst hz0
    have hcs : cs = [] := List.eq_nil_of_length_eq_zero (by simpa using hcl)
    rw [hx, h1]
    refine (c0 none 0 w).mono fun en w' ⟨he, hw⟩ => ?_
    subst hw
    rw [he]
    refine fin _ _ ⟨rfl, rfl, rfl, Nat.le_refl _, fun _ _ _ => rfl⟩ ?_ (by rw [h1])
    subst hcs
    rw [h1] at hrow
    exact hrow
  · have hH : Go.Sort.Holds (Value.int .i64) w g 0 zs.toArray := holds_of_blockI h3 (by rw [Nat.mul_one] at h7; exact h7)
    have hsz : zs.length ≤ 9223372036854775807 := Nat.le_trans hlim (by decide)
    rw [hx, h1]
    refine (c1 g 0 cap zs w hH hsz h4).mono fun en w' ⟨he, q, hw⟩ => ?_
    rw [hz] at he hw
    rw [he]
    generalize hD : cs ++ List.replicate (zs.length - cs.length) 0 = D at hw
    have hDl : D.length = zs.length := by rw [← hD]; simp; omega
    have hw : w' = Go.Sort.grow (Go.Sort.putRow (Value.int .i64) (Go.Sort.ahead w q) g 0 D.toArray) #[] := by rw [hw, Go.Sort.grow_empty]
    have hg : w.grownBy w' (some g) := by rw [hw]; exact grownBy_sortedI _
    have hb' := ownsRow_sortedI (w := w) (n := q) (os := #[]) (ss := zs) (ts := D) (e := e) hDl (Nat.zero_le g) h3 h4 h5 h6
    rw [← hw] at hb'
    refine fin _ _ (by rw [h1]; exact hg) ?_ (by rw [h1]; rfl)
    rcases hb'.2 with ⟨g1, _⟩ | ⟨g', cap', cur', g1, g2, g3, g4, g5, g6, g7⟩
    · simp at g1
    · simp only [Value.slice.injEq, Option.some.injEq, Addr.mk.injEq, and_true] at g1
      obtain ⟨rfl, _, rfl⟩ := g1
      refine ⟨by simp, .inr ⟨g, cap, cur', rfl, Nat.zero_le _, g3, by omega, g5, g6, ?_⟩⟩
      rw [Nat.mul_one] at g7 ⊢
      have : cur'.toList.take cs.length = (cur'.toList.take zs.length).take cs.length := by rw [List.take_take, Nat.min_eq_left hcl]
      rw [this, g7, ← hD, List.map_append]
      have e9 : (cs.map (Value.int .i64)).length = cs.length := by simp
      rw [← e9, List.take_left]
end Go.Proofs.YtlnhommmmajllaaGreat.Ev
