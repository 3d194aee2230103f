/-
  PlainBX: the law FnExactFactorizationsOf.
-/
import Derived.Test.YtdocbpiocinllaaPlainBT
import Derived.Test.YtdocbpiocinllaaPlainBW
set_option linter.unusedVariables false
set_option linter.unusedSimpArgs false
namespace Go.Proofs.Ytdocbpiocinllaa
open Go Ev

def szF (F : List (List (List Int))) : Nat := szL szZ F
def mkF (k : Nat) (F : List (List (List Int))) : List (List (List Int)) := mkL szZ mkZ k F
theorem encF_enc (F : List (List (List Int))) : encF F = encL lz F := rfl
theorem szL_bound {α : Type} {sz : α → Nat} {c : Nat} : ∀ {Z : List α}, (∀ a ∈ Z, sz a ≤ c) → szL sz Z ≤ Z.length * c
  | [], _ => Nat.zero_le _
  | a :: Z, h => by
    have h1 := h a List.mem_cons_self
    have h2 := szL_bound (Z := Z) (c := c) fun b hb => h b (List.mem_cons_of_mem _ hb)
    simp only [szL, List.length_cons, Nat.add_mul]
    omega
theorem markSSS_eq (F : List (List (List Int))) (k : Nat) (hk : k + szF F < 9223372036854775807) (hF : F.length < 9223372036854775807) (hf : ∀ Z ∈ F, Z.length ≤ 13) : f_l_markIntSSS_io (k : Int) (encF F) = some (((k + szF F : Nat) : Int), encF (mkF k F)) := by
  have := mark_loop lz szZ mkZ (rd := f_l_markIntSSS_io_r0) (f := f_l_markIntSS_io) (fun V k i => rfl) F k hk hF (fun Z hZ k' h' => markSS_eq Z k' h' (Nat.lt_of_le_of_lt (hf Z hZ) (by decide)))
  rw [encF_enc]
  simp only [f_l_markIntSSS_io, f_l_markIntSSS_io_k, this, bl1_one]
  rfl
theorem heldSSS_eq (F : List (List (List Int))) (k : Nat) (hk : k + szF F < 9223372036854775807) (hF : F.length < 9223372036854775807) (hf : ∀ Z ∈ F, Z.length ≤ 13) : f_l_heldIntSSS (encF (mkF k F)) (k : Int) = some ((k + szF F : Nat) : Int) := by
  have := held_loop lz szZ mkZ (V := encF (mkF k F)) (rd := f_l_heldIntSSS_r0 (encF (mkF k F))) (f := f_l_heldIntSS) (fun k i => rfl) F k rfl hk hF (fun Z hZ k' h' => heldSS_eq Z k' h' (Nat.lt_of_le_of_lt (hf Z hZ) (by decide)))
  simp only [f_l_heldIntSSS, f_l_heldIntSSS_k, this, bl_one]
  rfl
theorem eqSSS_self (F : List (List (List Int))) (hF : F.length < 9223372036854775807) (hf : ∀ Z ∈ F, Z.length ≤ 13) (ha : ∀ Z ∈ F, ∀ a ∈ Z, a.length ≤ 7) : f_l_eqIntSSS (encF F) (encF F) = some true := by
  have := eq_loop lz (V := encF F) (rd := f_l_eqIntSSS_r0 (encF F) (encF F)) (f := f_l_eqIntSS) (fun i => rfl) F rfl hF (fun Z h => eqSS_self Z (Nat.lt_of_le_of_lt (hf Z h) (by decide)) fun a h' => Nat.le_trans (ha Z h a h') (by decide))
  simp only [f_l_eqIntSSS, f_l_eqIntSSS_k, bne_self_eq_false, br_false, this, bl_one]
theorem FnExactFactorizationsOf_plain (x0 : List Int) (x1 : List Int) (w0 : All64 x0) (w1 : All64 x1) : f_l_FnExactFactorizationsOf (ints x0) (ints x1) = some true := by
  simp only [f_l_FnExactFactorizationsOf, f_l_FnExactFactorizationsOf_k, ints_length]
  by_cases h1 : x1.length ≤ 1048576
  · have d1 : decide ((x1.length : Int) > 1048576) = false := by simp; omega
    have hl1 := le_lim h1
    by_cases h : x0.length ≤ 1048576
    · obtain ⟨r, hr, hd⟩ := sz_gate h
      have hl := le_lim h
      obtain ⟨F, ok, e1, e2, _, hn, hf, ha⟩ := Factorizations_both2 x0 x1 hl hl1
      have hsz : szF F ≤ 7 ^ 12 * 91 := by
        have hZ : ∀ Z ∈ F, szZ Z ≤ 91 := fun Z hZ => by
          have h2 := szL_bound (sz := List.length) (c := 7) (Z := Z) (ha Z hZ)
          have h3 := hf Z hZ
          unfold szZ
          omega
        have h2 := szL_bound (sz := szZ) (c := 91) hZ
        unfold szF
        exact Nat.le_trans h2 (Nat.mul_le_mul_right _ hn)
      have hF : F.length < 9223372036854775807 := by omega
      have q1 := eqSSS_self F hF hf ha
      have m1 : f_l_markGroup_io 1 (ints x0) = some (((1 + x0.length : Nat) : Int), ints (upK 1 x0.length)) := by
        have := mark_eq x0 1 (le_lim' (by omega))
        simp only [Int.natCast_one] at this
        simp only [f_l_markGroup_io, f_l_markGroup_io_k, this, bo_some]
      have m2 := mark_eq x1 (1 + x0.length) (Nat.le_trans (show 1 + x0.length + x1.length ≤ 4194304 by omega) (by decide))
      have m3 := markSSS_eq F 1 (by omega) hF hf
      have h3 := heldSSS_eq F 1 (by omega) hF hf
      have n1 : decide (((1 + x0.length + x1.length : Nat) : Int) < 0) = false := decide_eq_false (by omega)
      have n2 : decide (((1 + szF F : Nat) : Int) < 0) = false := decide_eq_false (by omega)
      simp only [Int.natCast_one] at m3 h3
      simp only [d1, hr, bo_some, hd, br_false, grOk_ints _ hl, br_true, toIntS_eq _ hl1, e1, e2, q1, eqGroup_self _ hl, eqIntS_self _ hl1, Bool.not_true, BEq.rfl, m1, m2, m3, h3, n1, n2, bne_self_eq_false]
    · obtain ⟨r, hr, hd⟩ := sz_shut h w0.2
      simp only [d1, hr, bo_some, hd, br_true, br_false]
  · have d1 : decide ((x1.length : Int) > 1048576) = true := by simp; omega
    simp only [d1, br_true]
end Go.Proofs.Ytdocbpiocinllaa
