/-
  PlainBR: the factorizations of impl: terms counted, atoms taken out and put back.
-/
import Derived.Test.YtdocbpiocinllaaPlainBQ
set_option linter.unusedVariables false
set_option linter.unusedSimpArgs false
namespace Go.Proofs.Ytdocbpiocinllaa
open Go Ev

/-! ### Rows of counts -/
def arr (N : Nat) (F : Nat → Int) : List Int := (List.range N).map F
theorem arr_len (N : Nat) (F : Nat → Int) : (arr N F).length = N := by simp [arr]
theorem arr_get {N x : Nat} (F : Nat → Int) (h : x < N) : (arr N F).getD x 0 = F x := by simp [arr, List.getD, h]
theorem arr_set {N j : Nat} (F : Nat → Int) (h : j < N) (v : Int) : (ints (arr N F)).set j (Sc.n .i64 v) = ints (arr N fun y => if y = j then v else F y) := by
  apply List.ext_getElem?
  intro i
  unfold ints arr
  rw [List.getElem?_set]
  by_cases hi : j = i
  · subst hi
    simp [h]
  · rw [if_neg hi]
    simp only [List.getElem?_map]
    by_cases hN : i < N
    · rw [List.getElem?_range hN]
      simp [Ne.symm hi]
    · rw [List.getElem?_eq_none (by simp; omega)]
      rfl
def InR (N : Nat) (a : List Int) : Prop := ∀ x ∈ a, ∃ y : Nat, x = y ∧ y < N
theorem InR.tail {N : Nat} {x : Int} {a : List Int} (h : InR N (x :: a)) : InR N a := fun y hy => h y (List.mem_cons_of_mem _ hy)
def tkF (k : Int) (s : (Nat → Int) × Bool) (x : Int) : (Nat → Int) × Bool := (fun y => if y = x.toNat then s.1 x.toNat - k else s.1 y, s.2 && decide (s.1 x.toNat - k ≥ 0))
theorem tk_val {N : Nat} (k : Int) : ∀ (a : List Int) (s : (Nat → Int) × Bool) (y : Nat), InR N a → (a.foldl (tkF k) s).1 y = s.1 y - k * (a.count (y : Int) : Nat)
  | [], s, y, _ => by simp
  | x :: a, s, y, h => by
    obtain ⟨z, rfl, hz⟩ := h x List.mem_cons_self
    rw [List.foldl_cons, tk_val k a _ y h.tail, List.count_cons]
    simp only [tkF, Int.toNat_natCast]
    by_cases hy : y = z
    · subst hy
      rw [if_pos rfl, if_pos (by simp)]
      rw [Int.natCast_add, Int.mul_add]
      simp only [Int.natCast_one, Int.mul_one]
      omega
    · rw [if_neg hy, if_neg (by simp; omega)]
      simp
theorem tk_fl {N : Nat} : ∀ (a : List Int) (s : (Nat → Int) × Bool), InR N a → ((a.foldl (tkF 1) s).2 = true ↔ s.2 = true ∧ ∀ x ∈ a, s.1 x.toNat - (a.count x : Nat) ≥ 0)
  | [], s, _ => by simp
  | x :: a, s, h => by
    obtain ⟨z, rfl, hz⟩ := h x List.mem_cons_self
    rw [List.foldl_cons, tk_fl a _ h.tail]
    simp only [tkF, Int.toNat_natCast, Bool.and_eq_true, decide_eq_true_eq]
    constructor
    · rintro ⟨⟨h1, h2⟩, h3⟩
      refine ⟨h1, fun y hy => ?_⟩
      by_cases hya : y ∈ a
      · have := h3 y hya
        obtain ⟨y', rfl, _⟩ := h.tail y hya
        rw [List.count_cons]
        simp only [Int.toNat_natCast] at this ⊢
        by_cases he : y' = z
        · subst he
          rw [if_pos rfl] at this
          rw [if_pos (by simp)]
          omega
        · rw [if_neg he] at this
          rw [if_neg (by simp; omega)]
          omega
      · have hyz : y = (z : Int) := by
          rcases List.mem_cons.1 hy with hy | hy
          · exact hy
          · exact absurd hy hya
        subst hyz
        rw [List.count_cons_self, List.count_eq_zero.2 hya]
        simp only [Int.toNat_natCast]
        omega
    · rintro ⟨h1, h2⟩
      have hz0 := h2 (z : Int) List.mem_cons_self
      rw [List.count_cons_self] at hz0
      simp only [Int.toNat_natCast] at hz0
      refine ⟨⟨h1, by omega⟩, fun y hy => ?_⟩
      have := h2 y (List.mem_cons_of_mem _ hy)
      obtain ⟨y', rfl, _⟩ := h.tail y hy
      rw [List.count_cons] at this
      simp only [Int.toNat_natCast] at this ⊢
      by_cases he : y' = z
      · subst he
        rw [if_pos rfl]
        rw [if_pos (by simp)] at this
        omega
      · rw [if_neg he]
        rw [if_neg (by simp; omega)] at this
        omega

theorem take_eq {N : Nat} {a : List Int} {k : Int} {F : Nat → Int} (hk : k = 1 ∨ k = -1) (ha : InR N a) (hal : a.length ≤ 7) (hF : ∀ y, -100 ≤ F y ∧ F y ≤ 100) :
    f_i_FactorizationsOf_1 (ints a) k (ints (arr N F)) = some ((a.foldl (tkF k) (F, true)).2, ints (arr N (a.foldl (tkF k) (F, true)).1)) := by
  have key := loop_count (rd := f_i_FactorizationsOf_1_r0 k (ints a) (a.length : Int)) (fun t => (ints (arr N ((a.take t).foldl (tkF k) (F, true)).1), ((a.take t).foldl (tkF k) (F, true)).2, (t : Int))) a.length (a := (ints (arr N (a.foldl (tkF k) (F, true)).1), (a.foldl (tkF k) (F, true)).2)) (fun t ht => by
    have hx : a.getD t 0 ∈ a := getD_mem ht
    obtain ⟨z, hz, hzN⟩ := ha _ hx
    have hb : -107 ≤ ((a.take t).foldl (tkF k) (F, true)).1 z ∧ ((a.take t).foldl (tkF k) (F, true)).1 z ≤ 107 := by
      rw [tk_val k (a.take t) (F, true) z (fun y hy => ha y (List.mem_of_mem_take hy))]
      show -107 ≤ F z - k * _ ∧ F z - k * _ ≤ 107
      have h1 := hF z
      have h2 : (a.take t).count (z : Int) ≤ 7 := Nat.le_trans List.count_le_length (by rw [List.length_take]; omega)
      generalize (a.take t).count (z : Int) = c at h2 ⊢
      rcases hk with rfl | rfl
      · constructor <;> omega
      · constructor <;> omega
    have e3 : a.take (t + 1) = a.take t ++ [a.getD t 0] := by
      rw [List.take_succ_eq_append_getElem ht]
      simp [List.getD, ht]
    rw [e3, List.foldl_append]
    generalize (a.take t).foldl (tkF k) (F, true) = s at hb ⊢
    obtain ⟨F', fl⟩ := s
    simp only at hb
    have hw : w64 (F' z - k) = F' z - k := by rcases hk with rfl | rfl <;> exact w64_in (by omega) (by omega)
    simp only [f_i_FactorizationsOf_1_r0, f_i_FactorizationsOf_1_k0, lt_dec ht, br_true, ok_nat ht, at_nat, hz, inRange_nat, ints_length, arr_len, decide_eq_true hzN, kAt_ints, atN_ints, Int.toNat_natCast, arr_get F' hzN, hw, arr_set F' hzN, w64_nat (by omega : t < 9223372036854775807), List.foldl_cons, List.foldl_nil, tkF, arr_get (fun y => if y = z then F' z - k else F' y) hzN, if_pos]
    cases fl with
    | true => simp [br_true]
    | false => simp [br_false])
    (by simp only [f_i_FactorizationsOf_1_r0, f_i_FactorizationsOf_1_k0, lt_dec_self, br_false, List.take_length]) 0 (Nat.zero_le _)
  simp only [List.take_zero, List.foldl_nil] at key
  have e0 : (((0 : Nat) : Int)) = 0 := rfl
  rw [e0] at key
  simp only [f_i_FactorizationsOf_1, f_i_FactorizationsOf_1_k, ints_length, key, bl1_one]
/-- How often each number stands in L. -/
def cntZ (L : List Int) (y : Nat) : Int := (L.count (y : Int) : Nat)
theorem arr_congr {N : Nat} {F G : Nat → Int} (h : ∀ y, y < N → F y = G y) : arr N F = arr N G := by
  unfold arr
  exact List.map_congr_left fun y hy => h y (List.mem_range.1 hy)
/-- An atom that is there is taken out. -/
theorem take_fits {N : Nat} {a L L' : List Int} (ha : InR N a) (hal : a.length ≤ 7) (hL : L.length ≤ 12) (hm : minL L a = some L') : f_i_FactorizationsOf_1 (ints a) 1 (ints (arr N (cntZ L))) = some (true, ints (arr N (cntZ L'))) := by
  have hp := minL_some hm
  have hc : ∀ x : Int, L.count x = a.count x + L'.count x := fun x => by rw [← hp.count_eq x, List.count_append]
  rw [take_eq (.inl rfl) ha hal (fun y => by
    have : L.count (y : Int) ≤ 12 := Nat.le_trans List.count_le_length hL
    unfold cntZ; omega)]
  have h1 : (a.foldl (tkF 1) (cntZ L, true)).2 = true := (tk_fl a _ ha).2 ⟨rfl, fun x hx => by
    obtain ⟨y, rfl, _⟩ := ha x hx
    have := hc (y : Int)
    unfold cntZ
    simp only [Int.toNat_natCast]
    omega⟩
  rw [h1, arr_congr (G := cntZ L') fun y hy => by
    rw [tk_val 1 a _ y ha]
    have := hc (y : Int)
    unfold cntZ
    simp only
    omega]
/-- One that is not there leaves a number below 0. -/
theorem take_not {N : Nat} {a L : List Int} (ha : InR N a) (hal : a.length ≤ 7) (hL : L.length ≤ 12) (hm : minL L a = none) : f_i_FactorizationsOf_1 (ints a) 1 (ints (arr N (cntZ L))) = some (false, ints (arr N fun y => cntZ L y - (a.count (y : Int) : Nat))) := by
  obtain ⟨x, hx, hlt⟩ := minL_none hm
  rw [take_eq (.inl rfl) ha hal (fun y => by
    have : L.count (y : Int) ≤ 12 := Nat.le_trans List.count_le_length hL
    unfold cntZ; omega)]
  have h1 : (a.foldl (tkF 1) (cntZ L, true)).2 = false := by
    cases hq : (a.foldl (tkF 1) (cntZ L, true)).2 with
    | false => rfl
    | true =>
      have := ((tk_fl a _ ha).1 hq).2 x hx
      obtain ⟨y, rfl, _⟩ := ha x hx
      unfold cntZ at this
      simp only [Int.toNat_natCast] at this
      omega
  rw [h1, arr_congr (G := fun y => cntZ L y - (a.count (y : Int) : Nat)) fun y hy => by
    rw [tk_val 1 a _ y ha]
    simp]
/-- It is put back. -/
theorem take_back {N : Nat} {a : List Int} {F G : Nat → Int} (ha : InR N a) (hal : a.length ≤ 7) (hF : ∀ y, -100 ≤ F y ∧ F y ≤ 100) (hG : ∀ y, y < N → G y = F y + (a.count (y : Int) : Nat)) : ∃ fl, f_i_FactorizationsOf_1 (ints a) (-1) (ints (arr N F)) = some (fl, ints (arr N G)) := by
  have := take_eq (.inr rfl) ha hal hF
  rw [arr_congr (F := (a.foldl (tkF (-1)) (F, true)).1) (G := G) fun y hy => by
    rw [tk_val (-1) a _ y ha, hG y hy]
    simp only
    omega] at this
  exact ⟨_, this⟩
end Go.Proofs.Ytdocbpiocinllaa
