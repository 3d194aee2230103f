/-
  PlainK: the sums of the parts by their number of terms (SubsumsOfLength).
-/
import Derived.Test.YtdocbpiocinllaaPlainG
set_option linter.unusedVariables false
set_option linter.unusedSimpArgs false
namespace Go.Proofs.Ytdocbpiocinllaa
open Go Ev

/-- One term more. -/
def lenF (g : List Nat) (B : Nat → Nat) (x n : Nat) : Nat := if n = 0 then B 0 else B n ||| shiftN g (B (n - 1)) x
def len0 (n : Nat) : Nat := if n = 0 then 1 else 0
/-- The sums of the parts of n terms. -/
def lenN (g l : List Nat) : Nat → Nat := l.foldl (lenF g) len0
theorem shiftN_none (g : List Nat) (x : Nat) : shiftN g 0 x = 0 := by
  have : elems 0 = [] := by
    unfold elems
    rw [List.filter_eq_nil_iff]
    intro y _
    simp
  unfold shiftN
  rw [this]
  rfl
theorem lenN_snoc (g l : List Nat) (x : Nat) : lenN g (l ++ [x]) = lenF g (lenN g l) x := by
  unfold lenN
  rw [List.foldl_append]
  rfl
theorem rev_ind {P : List Nat → Prop} (h0 : P []) (h1 : ∀ l x, P l → P (l ++ [x])) (l : List Nat) : P l := by
  have key : ∀ l : List Nat, P l.reverse := by
    intro l
    induction l with
    | nil => exact h0
    | cons x l ih => rw [List.reverse_cons]; exact h1 _ x ih
  have := key l.reverse
  rwa [List.reverse_reverse] at this
theorem lenN_big (g : List Nat) : ∀ (l : List Nat) (n : Nat), l.length < n → lenN g l n = 0 := by
  refine rev_ind ?_ fun l x ih => ?_
  · intro n hn
    have : n ≠ 0 := by simp at hn; omega
    simp [lenN, len0, this]
  · intro n hn
    simp only [List.length_append, List.length_singleton] at hn
    rw [lenN_snoc]
    unfold lenF
    rw [if_neg (by omega), ih n (by omega), ih (n - 1) (by omega), shiftN_none]
    rfl
theorem lenN_lt {g : List Nat} (v : VG g) : ∀ (l : List Nat), ∀ n, lenN g l n < 2 ^ ordN g := by
  refine rev_ind ?_ fun l x ih => ?_
  · intro n
    show len0 n < 2 ^ ordN g
    unfold len0
    have h1 : 2 ^ 1 ≤ 2 ^ ordN g := Nat.pow_le_pow_right (by decide) (ordN_pos v.each)
    split <;> omega
  · intro n
    rw [lenN_snoc]
    unfold lenF
    split
    · exact ih 0
    · exact or_lt (ih n) (shiftN_lt v _ _)

theorem at_lt' {n : Nat} {l : List Nat} (hl : ∀ x ∈ l, x < n) {k : Nat} (hk : k < l.length) : l.getD k 0 < n := hl _ (by simp [List.getD, List.getElem?_eq_getElem hk])
/-- A row of numbers. -/
def rowN (N : Nat) (f : Nat → Nat) : List Nat := (List.range N).map f
theorem rowN_length (N : Nat) (f : Nat → Nat) : (rowN N f).length = N := by simp [rowN]
theorem rowN_get {N : Nat} {f : Nat → Nat} {k : Nat} (h : k < N) : (rowN N f).getD k 0 = f k := by
  unfold rowN
  simp [List.getD, h]
theorem rowN_set {N : Nat} {f : Nat → Nat} {k y : Nat} (h : k < N) : (rowN N f).set k y = rowN N (fun j => if j = k then y else f j) := by
  unfold rowN
  apply List.ext_getElem?
  intro i
  rw [List.getElem?_set]
  simp only [List.length_map, List.length_range, List.getElem?_map, List.getElem?_range']
  by_cases hi : i < N
  · by_cases hk : k = i
    · subst hk; simp [h]
    · simp [hk, hi, Ne.symm hk]
  · by_cases hk : k = i
    · subst hk; omega
    · simp [hk, hi]
theorem rowN_congr {N : Nat} {f f' : Nat → Nat} (h : ∀ k, k < N → f k = f' k) : rowN N f = rowN N f' := by
  unfold rowN
  exact List.map_congr_left fun k hk => h k (List.mem_range.1 hk)
theorem ints_natsI_set (l : List Nat) (k y : Nat) : (ints (natsI l)).set k (Sc.n .i64 (y : Int)) = ints (natsI (l.set k y)) := by
  rw [ints_set]
  unfold natsI
  rw [List.map_set]
def midN (g : List Nat) (B : Nat → Nat) (x t : Nat) : Nat → Nat := fun j => if t < j then lenF g B x j else B j
theorem mid_step {g : List Nat} {B : Nat → Nat} {x t : Nat} : (fun j => if j = t + 1 then (B (t + 1) ||| shiftN g (B t) x) else midN g B x (t + 1) j) = midN g B x t := by
  funext j
  unfold midN lenF
  by_cases h : j = t + 1
  · subst h
    simp
  · by_cases h2 : t + 1 < j
    · simp [h, h2, show t < j by omega]
    · simp [h, h2, show ¬ t < j by omega]
theorem mid_zero {g : List Nat} {B : Nat → Nat} {x : Nat} : midN g B x 0 = lenF g B x := by
  funext j
  unfold midN
  by_cases h : 0 < j
  · simp [h]
  · have : j = 0 := by omega
    subst this
    simp [lenF]
theorem natsI_row_len (N : Nat) (f : Nat → Nat) : (ints (natsI (rowN N f))).length = N := by rw [ints_length, natsI_length, rowN_length]
theorem row_start (N : Nat) (hN : 0 < N) : (List.replicate N (Sc.n .i64 0)).set 0 (Sc.n .i64 1) = ints (natsI (rowN N len0)) := by
  have e1 : List.replicate N (Sc.n .i64 0) = ints (natsI (rowN N fun _ => 0)) := by
    unfold ints natsI rowN
    rw [List.map_map, List.map_map]
    apply List.ext_getElem?
    intro i
    simp only [List.getElem?_replicate, List.getElem?_map]
    by_cases h : i < N
    · simp [h]
    · simp [h]
  rw [e1, show (1 : Int) = ((1 : Nat) : Int) from rfl, ints_natsI_set, rowN_set hN]
  rfl
theorem take_snoc (l : List Nat) {k : Nat} (h : k < l.length) : l.take (k + 1) = l.take k ++ [l.getD k 0] := by
  rw [List.take_succ_eq_append_getElem h]
  simp [List.getD, List.getElem?_eq_getElem h]
end Go.Proofs.Ytdocbpiocinllaa
