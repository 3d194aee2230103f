/-
  VSort: the library's sort of a row of integers, as a call in plain data.
-/
import Derived.Test.YtlnhommmmajllaaGreatVGen
import Derived.Sort.OwnSortedInts
set_option linter.unusedVariables false
namespace Go.Proofs.YtlnhommmmajllaaGreat.Ev
open Go Go.RowKit
def sortZ (zs : List Int) : List Int := zs.mergeSort fun x y => decide (x ≤ y)
def sortSc (L : List Sc) : Option (List Sc) := br (allI L && decide (L.length ≤ lim)) (some (ints (sortZ (nums L)))) none
theorem ints_vals (zs : List Int) : (ints zs).map Sc.val = zs.map (Value.int .i64) := by
  unfold ints
  rw [List.map_map]
  rfl
theorem sort_CS {P : Program} {f : FuncId} {e : TypeId} (hf : ∃ fn, P.funcs[f]? = some fn ∧ fn.body.isSome = true)
    (c1 : ∀ (blk off cap : Nat) (zs : List Int) (w : World), Go.Sort.Holds (Value.int .i64) w blk off zs.toArray → blk < w.heap.size → zs.length < 4611686018427387904 →
      Calls P f #[.slice (some ⟨blk, off, none⟩) zs.length cap] w fun e w' => e = .returned (.tuple #[]) ∧ ∃ n os, w' = Go.Sort.grow (Go.Sort.putRow (Value.int .i64) (Go.Sort.ahead w n) blk off (zs.mergeSort fun x y => decide (x ≤ y)).toArray) os)
    (c0 : ∀ (p : Option Addr) (cap : Nat) (w : World), Calls P f #[.slice p 0 cap] w fun e w' => e = .returned (.tuple #[]) ∧ w' = w) {L r : List Sc} (h : sortSc L = some r) (heN : isN e = false := by rfl) : CS P f [.p (.al 0)] [.own e L] [] [.own e r] := by
  refine CS.of ⟨hf, ?_⟩
  intro w M vs pre
  unfold sortSc at h
  cases hc : (allI L && decide (L.length ≤ lim)) with
  | false => rw [hc] at h; cases h
  | true =>
  rw [hc] at h
  obtain rfl := Option.some.inj h
  rw [Bool.and_eq_true, decide_eq_true_eq] at hc
  obtain ⟨hI, hlim⟩ := hc
  have hL : ints (nums L) = L := ints_nums hI
  generalize nums L = zs at hL
  subst hL
  rw [ints_length] at hlim
  have hlen := pre.len
  obtain ⟨x, rfl⟩ : ∃ x, vs = [x] := by
    match vs, hlen with
    | [x], _ => exact ⟨x, rfl⟩
  have ha := (pre.arg 0 _ _ rfl rfl).1
  obtain ⟨_, hx⟩ : rf [AV.own e (ints zs)] 0 = true ∧ x = M.tm 0 := ha
  have hslot := pre.core.slot 0
  obtain ⟨hrow0, hown⟩ : Row w M.fz 0 e (M.tm 0) (ints zs) ∧ ∀ b, (M.tm 0).ownBlock = some b → M.ow b = some (.r 0 []) := (RowO.flat (isN_dp heN)).1 hslot
  have hrow := (hrow0.sc heN).1
  rw [ints_length, ints_vals] at hrow
  have hsl : (sortZ zs).length = zs.length := List.length_mergeSort zs
  rcases hrow.2 with ⟨h1, h2⟩ | ⟨g, cap, cur, h1, hb, h3, h4, h5, h6, h7⟩
  · have hz : zs = [] := List.eq_nil_of_length_eq_zero h2
    subst hz
    have e0 : sortZ [] = [] := by simp [sortZ]
    rw [e0]
    rw [hx, h1]
    refine (c0 none 0 w).mono fun en w' ⟨he, hw⟩ => ?_
    subst hw
    exact ⟨[], M, he, pre.core, Kept.refl _ _, fun b q hb => .inl ⟨q, hb⟩, rfl, fun _ h => h, rfl, fun _ _ _ => rfl, fun _ _ _ => rfl, rfl, fun i v x hv => by simp at hv⟩
  · have hbl : g < w.heap.size := (Array.getElem?_eq_some_iff.1 h3).1
    have hog : M.ow g = some (.r 0 []) := hown g (by rw [h1]; rfl)
    have hH : Go.Sort.Holds (Value.int .i64) w g 0 zs.toArray := holds_of_blockI h3 (by rw [Nat.mul_one] at h7; exact h7)
    have hsz : zs.length < 4611686018427387904 := Nat.lt_of_le_of_lt hlim (by decide)
    rw [hx, h1]
    refine (c1 g 0 cap zs w hH hbl hsz).mono fun en w' ⟨he, n, os, hw⟩ => ?_
    have hgrow : w.grownBy w' (some g) := by rw [hw]; exact grownBy_sortedI _
    have hrow' : w'.ownsRow 0 e 1 (M.tm 0) (sortZ zs).length ((sortZ zs).map (Value.int .i64)) := by
      rw [hw, h1, hsl]
      exact ownsRow_sortedI hsl (Nat.zero_le _) h3 h4 h5 h6
    have hkeep : ∀ b, b < w.heap.size → b ≠ g → w'.heap[b]? = w.heap[b]? := fun b hb hn => hgrow.block b hb fun e => hn (Option.some.inj e)
    refine ⟨[], M, he, ⟨fun t => ?_, fun k ad hl => ?_, fun b q hb => ⟨Nat.lt_of_lt_of_le (pre.core.low b q hb).1 hgrow.size, (pre.core.low b q hb).2⟩, pre.core.sub⟩, ?_, fun b q hb => .inl ⟨q, hb⟩, rfl, fun _ h => h, rfl, fun _ _ _ => rfl, fun _ _ _ => rfl, rfl, fun i v x hv => by simp at hv⟩
    · cases t with
      | zero =>
        refine (RowO.flat (isN_dp heN)).2 ⟨Row.ofSc heN ?_ fun y hy => ?_, hown⟩
        · rw [ints_length, ints_vals]
          exact hrow'
        · unfold ints at hy
          obtain ⟨q, _, rfl⟩ := List.mem_map.1 hy
          rfl
      | succ t => exact trivial
    · obtain ⟨q1, q2, q3, k0, n0, q4, q5⟩ := pre.core.cell k ad hl
      have hne : ad.block ≠ g := fun e => by
        rw [e, hog] at q4
        cases q4
      have hlt := cell_lt q1
      refine ⟨cell_same q1 (hkeep _ hlt hne), ?_, q3, k0, n0, q4, q5⟩
      rw [← q2]
      simp only [World.frozen?, hkeep _ hlt hne]
    · have hk := Kept.of_grown hgrow
      exact ⟨hk.os, hk.tape, hk.output, hk.size, fun b hb hn => hk.block b hb fun e => by
        have e := Option.some.inj e
        subst e
        exact hn ⟨_, hog⟩⟩
end Go.Proofs.YtlnhommmmajllaaGreat.Ev
