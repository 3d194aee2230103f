/-
  PlainBO: all atoms of a group of order at most 7; CountAtoms.
-/
import Derived.Test.YtdocbpiocinllaaPlainB
import Derived.Test.YtdocbpiocinllaaPlainBN
set_option linter.unusedVariables false
set_option linter.unusedSimpArgs false
namespace Go.Proofs.Ytdocbpiocinllaa
open Go Ev

def smallG (G : List Int) : Bool := isG G && decide (prodW G ≤ 7)
def tens : List (List Int) := atomsT.map (·.1)
def rng : List Int := (List.range 23).map fun (i : Nat) => (i : Int) + 2
theorem in_rng {x : Int} (h : inB x 2 24 = true) : x ∈ rng := by
  simp only [inB, Bool.and_eq_true, decide_eq_true_eq] at h
  unfold rng
  exact List.mem_map.2 ⟨(x - 2).toNat, List.mem_range.2 (by omega), by omega⟩
def okT (G : List Int) : Bool := !decide (prodW G ≤ 7) || tens.any fun x => decide (x = G)
theorem okT1 : rng.all (fun a => okT [a]) = true := by kernel_rfl
theorem okT2 : rng.all (fun a => rng.all fun b => okT [a, b]) = true := by kernel_rfl
theorem okT3 : rng.all (fun a => rng.all fun b => rng.all fun c => okT [a, b, c]) = true := by kernel_rfl
theorem small_in {G : List Int} (h : smallG G = true) : G ∈ tens := by
  simp only [smallG, isG, Bool.and_eq_true, decide_eq_true_eq, List.all_eq_true] at h
  obtain ⟨⟨h1, h2, _⟩, h3⟩ := h
  have fin : ∀ {G : List Int}, prodW G ≤ 7 → okT G = true → G ∈ tens := by
    intro G h3 h4
    simp only [okT, h3, decide_true, Bool.not_true, Bool.false_or, List.any_eq_true, decide_eq_true_eq] at h4
    obtain ⟨x, hx, rfl⟩ := h4
    exact hx
  refine fin h3 ?_
  match G, h1, h2 with
  | [], _, _ => rfl
  | [a], _, h2 => exact List.all_eq_true.1 okT1 a (in_rng (h2 a (by simp)))
  | [a, b], _, h2 => exact List.all_eq_true.1 (List.all_eq_true.1 okT2 a (in_rng (h2 a (by simp)))) b (in_rng (h2 b (by simp)))
  | [a, b, c], _, h2 => exact List.all_eq_true.1 (List.all_eq_true.1 (List.all_eq_true.1 okT3 a (in_rng (h2 a (by simp)))) b (in_rng (h2 b (by simp)))) c (in_rng (h2 c (by simp)))
  | _ :: _ :: _ :: _ :: _, h1, _ => simp only [List.length_cons] at h1; omega
def atomsA (G : List Int) : List (List Int) := if smallG G then atomsG G else []
theorem s_AtomsOf_eq (G : List Int) (h : G.length ≤ lim) : f_s_AtomsOf (ints G) = some (lz (atomsA G), smallG G) := by
  cases hs : smallG G with
  | true =>
    have := small_in hs
    unfold atomsA
    rw [if_pos hs]
    simp only [tens, atomsT, List.map_cons, List.map_nil, List.mem_cons, List.not_mem_nil, or_false] at this
    rcases this with rfl | rfl | rfl | rfl | rfl | rfl | rfl | rfl | rfl | rfl
    · exact (f_s_AtomsOf_le 200 _).of _ s_atoms0
    · exact (f_s_AtomsOf_le 200 _).of _ s_atoms1
    · exact (f_s_AtomsOf_le 200 _).of _ s_atoms2
    · exact (f_s_AtomsOf_le 200 _).of _ s_atoms3
    · exact (f_s_AtomsOf_le 200 _).of _ s_atoms4
    · exact (f_s_AtomsOf_le 200 _).of _ s_atoms5
    · exact (f_s_AtomsOf_le 200 _).of _ s_atoms6
    · exact (f_s_AtomsOf_le 200 _).of _ s_atoms7
    · exact (f_s_AtomsOf_le 200 _).of _ s_atoms8
    · exact (f_s_AtomsOf_le 200 _).of _ s_atoms9
  | false =>
    unfold atomsA
    rw [if_neg (by rw [hs]; simp)]
    simp only [f_s_AtomsOf, f_s_AtomsOf_k, s_IsGroup_eq G h, bo_some, s_l2Order_eq G h]
    unfold smallG at hs
    cases hg : isG G with
    | false => rfl
    | true =>
      rw [hg, Bool.true_and, decide_eq_false_iff_not] at hs
      have : decide (prodW G > 7) = true := decide_eq_true (by omega)
      rw [this]
      rfl
theorem i_AtomsOf_eq (G : List Int) (h : G.length ≤ lim) : f_i_AtomsOf (ints G) = some (lz (atomsA G), smallG G) := by
  cases hs : smallG G with
  | true =>
    have := small_in hs
    unfold atomsA
    rw [if_pos hs]
    simp only [tens, atomsT, List.map_cons, List.map_nil, List.mem_cons, List.not_mem_nil, or_false] at this
    rcases this with rfl | rfl | rfl | rfl | rfl | rfl | rfl | rfl | rfl | rfl
    · exact (f_i_AtomsOf_le 200 _).of _ i_atoms0
    · exact (f_i_AtomsOf_le 200 _).of _ i_atoms1
    · exact (f_i_AtomsOf_le 200 _).of _ i_atoms2
    · exact (f_i_AtomsOf_le 200 _).of _ i_atoms3
    · exact (f_i_AtomsOf_le 200 _).of _ i_atoms4
    · exact (f_i_AtomsOf_le 200 _).of _ i_atoms5
    · exact (f_i_AtomsOf_le 200 _).of _ i_atoms6
    · exact (f_i_AtomsOf_le 200 _).of _ i_atoms7
    · exact (f_i_AtomsOf_le 200 _).of _ i_atoms8
    · exact (f_i_AtomsOf_le 200 _).of _ i_atoms9
  | false =>
    unfold atomsA
    rw [if_neg (by rw [hs]; simp)]
    simp only [f_i_AtomsOf, f_i_AtomsOf_k, i_IsGroup_eq G h, bo_some, i_OrderOf_eq G h]
    unfold smallG at hs
    cases hg : isG G with
    | false => rfl
    | true =>
      rw [hg, Bool.true_and, decide_eq_false_iff_not] at hs
      have : decide (ordG G > 7) = true := decide_eq_true (by unfold ordG; rw [if_pos hg]; omega)
      rw [this]
      rfl
theorem atomsG_len : atomsT.all (fun x => decide (x.2.length ≤ 48)) = true := by kernel_rfl
theorem atomsA_len (G : List Int) : (atomsA G).length ≤ 48 := by
  unfold atomsA atomsG
  split
  · split
    · rename_i x hx
      have := List.all_eq_true.1 atomsG_len x (List.mem_of_find?_eq_some hx)
      simpa using this
    · simp
  · simp
theorem lz_len (Z : List (List Int)) : (lz Z).length = Z.length := by simp [lz]

/-! ### CountAtoms -/
def cntF (L : List Sc) (n : Int) (t : Int) (k : Nat) : Int := if ((lstOf (L.getD k (.l []))).length : Int) = n then w64 (t + 1) else t
end Go.Proofs.Ytdocbpiocinllaa
